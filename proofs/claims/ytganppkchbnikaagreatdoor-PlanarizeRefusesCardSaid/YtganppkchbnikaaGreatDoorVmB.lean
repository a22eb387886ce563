/-
 A machine on typed values, small enough to be reckoned by the kernel, and the proof that it goes with the model: part 2 of 5. What it computes for a function is that function's contract. No condition of its own.
-/
import Derived.Test.YtganppkchbnikaaGreatDoorVmA
import Derived.Lib.ConvBytes
import Derived.Laws.BytesArg
import Derived.Laws.Tables
import Derived.ArgAppend
open Option.some renaming injEq->aw
open Option renaming bind_some->dg,bind_eq_some_iff->A6,map_eq_some_iff->Kl,map_some->KB
open Bool renaming and_eq_true->np,not_eq_true'->Jw,false_eq_true->JS,or_eq_false_iff->Lo,and_self->MB
open List renaming getElem?_eq_getElem->A1,getElem?_eq_some_iff->A2,mem_append->A4,replicate->A5,mem_cons->A8,length_cons->B6,append_assoc->Jm,eq_nil_of_length_eq_zero->Jp,mem_cons_of_mem->Jq,pairwise_cons->Jr,getElem?_set_ne->Js,getElem?_cons_zero->Ju,mem_of_getElem?->Jv,getElem?_set_self->Jx,getElem?_toArray->Jy,append_nil->Jz,map_cons->JA,length_nil->JB,getElem?_take->JC,length_append->JE,getElem?_cons_succ->JG,mem_cons_self->JH,pairwise_singleton->JI,getElem_append_left->JJ,getElem_append_right->JL,getElem?_append_left->JM,length_drop->JU,mem_of_mem_take->JV,any_eq_false->J0,getElem?_drop->J2,mem_of_mem_drop->J3,drop_eq_getElem_cons->J5,mem_iff_getElem?->J7,length_replicate->J8,length_set->Ka,length_take->Kf,ext_getElem?->Kk,length_pos_iff->Kn,pairwise_iff_getElem->Ks,getElem_set_ne->Kx,getElem_replicate->KC,take_append_of_le_length->KE,getElem?_eq_none->KG,flatten_cons->KL,getElem?_map->KS,drop_left->KT,size_toArray->KU,getElem_set_self->KV,drop_take->K3,drop_zero->K6,getElem?_append_right->K8,mem_or_eq_of_mem_set->La,headD_cons->Ll,replicate_succ->Lw,getElem_take->LD,drop_append_of_le_length->LG,drop_drop->LH,getElem_cons_succ->LN,getElem?_append->LU,getElem?_zipIdx->LW,getElem_drop->Md,isEmpty_nil->Mf,foldlM_cons->Mg,zipIdx_cons->Mh,map_map->ME
open Nat renaming eq_of_beq_eq_true->A3,beq->A7,mul_le_mul_right->B1,le_refl->B2,add_mul->B8,le_of_ble_eq_true->JF,ble->JK,zero_add->JP,lt_of_lt_of_le->JQ,add_assoc->JX,add_zero->JY,mul_one->Km,eq_zero_or_pos->Ku,beq_refl->KP,add_comm->KX,mul_le_mul->K5,lt_or_gt_of_ne->Ly,add_mul_mod_self_right->LK,div_lt_iff_lt_mul->LX,one_mul->L0,mul_comm->L6,lt_succ_self->Mp,mod_eq_of_lt->Mq,mul_eq_zero->Mv,mod_lt->Mw,div_add_mod->Mx,mul_zero->MI
open Prod.mk renaming injEq->B3
open Array renaming getElem?_eq_some_iff->Jt,length_toList->JD,getElem?_toList->JN,toArray_toList->JT,range->Kb,size_append->K7,toList_map->LB,map->LC,ext'->LJ,getElem?_push->LV
open List.Pairwise renaming nil->KH,cons->K4
open List.cons renaming injEq->KJ
open Int renaming mul_le_mul->MC
set_option linter.unusedVariables false
set_option linter.unusedSimpArgs false
/-
 Arrays of arrays that are owned to the bottom: what becomes of them in memory.
-/
namespace Go.Vm
section
variable {P:Program}{C:Ctx}{w0:World}{M:Own}{m:Mem}
theorem dM{i:Nat}{l:List Nat}(h:aH (i::l)=true):i∉l/\aH l=true:=by simp only[aH,np,Jw,J0]at h;exact⟨λhi=>h.1 i hi (KP i),h.2⟩
theorem jE:∀{l r:List Nat},aH l=true->aH r=true->(∀ i∈l,i∉r)->aH (l++r)=true
 |[],_,_,h,_=>h
 |a::l,r,h1,h2,h3=>by
  obtain⟨n1,n2⟩:=dM h1;have:=jE n2 h2 λi hi=>h3 i (by simp[hi]);simp only[List.cons_append,aH,this,Bool.and_true,Jw,J0];intro b hb e;have e:=A3 (by simpa using e);subst e;rcases A4.1 hb with hb|hb
  ·exact n1 hb
  exact h3 a (by simp) hb
theorem aU:∀{l r:List Nat},aH (l++r)=true->aH l=true/\aH r=true/\∀ i∈l,i∉r
 |[],r,h=>⟨rfl,h,by simp⟩
 |a::l,r,h=>by
  obtain⟨h1,h2⟩:=dM (l:=l++r) h;obtain⟨h3,h4,h5⟩:=aU h2;refine⟨?_,h4,?_⟩
  ·simp only[aH,np,Jw];refine⟨?_,h3⟩;rw[J0];intro b hb hab;have:=A3 hab;subst this;exact h1 (by simp[hb])
  intro i hi;rcases A8.1 hi with rfl|hi
  ·intro hr;exact h1 (by simp[hr])
  exact h5 i hi
theorem bA{w:World}{F:Nat->Prop}{u:Value}{e:Ty}{l:List e.den}(h:HdrW w F u e l):u.oneCell'=true:=by obtain⟨ad,cap,rfl,_⟩:=h;rfl
theorem E3 {w:World}{F:Nat->Prop}{u:Value}{σ : Ty}{l:List σ.den}(h:HdrW w F u σ l){k:Nat}(hk:k < l.length){cs:List Value}{y : σ.den}(hy:Rd w F σ cs y) :
  ∃ b off cap c el fz,u=.slice (some ⟨b,off,none⟩) l.length cap/\cap≠0/\w.heap[b]?=some (.cells c el fz)/\eo σ c.size fz/\off+k*σ.size+σ.size<=c.size/\Rd w F σ (seg c (off+k*σ.size) σ.size) l[k] /\
   ∀(w1:World) (F1:Nat->Prop),(∀ b',F b'->F1 b'/\w1.heap[b']?=w.heap[b']?)->w1.heap[b]?=some (.cells (aM c (off+k*σ.size) cs) el fz)->HdrW w1 F1 u σ (l.set k y):=by
 obtain⟨ad,cap,rfl,h2,h3,h4⟩:=h;have hc:cap≠0:=by omega
 obtain⟨b,off,c,el,fz,rfl,q2,q3,q4,q5⟩:=h4 hc;have hlen:=hy.len;have hle:(k+1)*σ.size<=cap*σ.size:=B1 _ (by omega);rw[B8]at hle;have hfit:off+k*σ.size+cs.length<=c.size:=by omega
 refine⟨b,off,cap,c,el,fz,rfl,hc,q2,q3,by omega,q5 k hk,λw1 F1 hF hb=>?_⟩;refine⟨some ⟨b,off,none⟩,cap,by simp,by simpa using h2,h3,λ_=>⟨b,off,_,el,fz,rfl,hb,by rw[bw _ _ _ hfit];exact q3,by rw[bw _ _ _ hfit];exact q4,λi hi'=>?_⟩⟩;simp only[Ka]at hi';by_cases hij:k=i
 ·subst hij;have e:=ko c (off+k*σ.size) cs hfit;rw[hlen]at e;rw[KV,e];exact hy.mono hF
 rw[Kx hij,ca _ _ _ hfit]
 ·exact(q5 i hi').mono hF
 rcases Ly hij with hlt|hgt
 ·right;have:(k+1)*σ.size<=i*σ.size:=B1 _ hlt;rw[B8]at this;omega
 left;have:(i+1)*σ.size<=k*σ.size:=B1 _ hgt;rw[B8]at this;omega
theorem w7 {w:World}{F:Nat->Prop}{u:Value}{σ : Ty}{l:List σ.den}(h:HdrW w F u σ l){k:Nat}(hk:k < l.length) :
  ∃ b off cap c el fz,u=.slice (some ⟨b,off,none⟩) l.length cap/\cap≠0/\w.heap[b]?=some (.cells c el fz)/\eo σ c.size fz/\off+k*σ.size+σ.size<=c.size/\Rd w F σ (seg c (off+k*σ.size) σ.size) l[k]:=by
 obtain⟨ad,cap,rfl,h2,h3,h4⟩:=h;have hc:cap≠0:=by omega
 obtain⟨b,off,c,el,fz,rfl,q2,q3,q4,q5⟩:=h4 hc;have hle:(k+1)*σ.size<=cap*σ.size:=B1 _ (by omega);rw[B8]at hle;exact⟨b,off,cap,c,el,fz,rfl,hc,q2,q3,by omega,q5 k hk⟩
theorem cr (hi:Inv C w0 M m){id ver:Nat}{τ : Ty}{l:List (List τ.den)}{hole:Option Nat}(hg:m.G.get id=some (.deep ver τ l hole)) :
  ∃ u hs,m.ι id=.tuple (u::hs).toArray/\DeepW m.w m.F u hs τ l hole:=hi.objs id _ hg
theorem nB {w:World}{F:Nat->Prop}{u:Value}{hs:List Value}{τ : Ty}{l:List (List τ.den)}{hole:Option Nat}(h:DeepW w F u hs τ l hole){j:Nat}(hj:j < l.length) :
  ∃ b off cap c el fz v,u=.slice (some ⟨b,off,none⟩) l.length cap/\cap≠0/\w.heap[b]?=some (.cells c el fz)/\eo (.slice τ) c.size fz/\off+cap<=c.size/\l.length<=cap/\hs[j]?=some v /\
   (hole≠some j->c[off+j]?=some v/\HdrW w F v τ l[j]):=by
 obtain⟨ad,cap,rfl,h2,h3,h4⟩:=h.outer;have hc:cap≠0:=by omega
 obtain⟨b,off,c,el,fz,rfl,q2,q3,q4,q5⟩:=h4 hc;have hlt:j<hs.length:=by rw[h.len];exact hj
 have hv:hs[j]?=some hs[j]:=A1 hlt;exact⟨b,off,cap,c,el,fz,hs[j],rfl,hc,q2,q3,q4,h2,hv,λhne=>⟨by rw[q5 j hj hne,hv],h.inner j hj _ hv hne⟩⟩
theorem i6{l:List Value}(h:cm l){i j:Nat}{u v:Value}(hij:i≠j)(hu:l[i]?=some u)(hv:l[j]?=some v){b:Nat}(h1:HB u b)(h2:HB v b):False:=by
 obtain⟨hi,rfl⟩:=A2.1 hu;obtain⟨hj,rfl⟩:=A2.1 hv;rcases Ly hij with hlt|hgt
 ·exact Ks.1 h i j hi hj hlt b h1 h2
 exact Ks.1 h j i hj hi hgt b h2 h1
theorem uU {w w1:World}{F F1:Nat->Prop}{u:Value}{hs:List Value}{τ : Ty}{l:List (List τ.den)}{hole:Option Nat}(h:DeepW w F u hs τ l hole){j:Nat}(hj:j < l.length){v:Value}(hv:hs[j]?=some v)
  {b:Nat} (hb:HB v b) (hF:∀ b',F b'->F1 b'/\w1.heap[b']?=w.heap[b']?) (hw:∀ k,k≠b->w1.heap[k]?=w.heap[k]?) {y:List τ.den} (hy:hole≠some j->HdrW w1 F1 v τ y) (hh:hole≠some j) :
  DeepW w1 F1 u hs τ (l.set j y) hole:=by
 have hnb:∀ k v',(u::hs)[k]?=some v'->k≠j+1->∀ b',HB v' b'->w1.heap[b']?=w.heap[b']?:=by intro k v' hk hkj b' hb';refine hw b' (λe=>?_);subst e;exact i6 h.apart hkj hk (by simpa using hv) hb' hb
 refine⟨by simpa using h.len,?_,λi hi' v' hv' hne=>?_,h.gone,h.apart⟩
 ·obtain⟨ad,cap,rfl,h2,h3,h4⟩:=h.outer;refine⟨ad,cap,by simp,by simpa using h2,h3,λhc=>?_⟩;obtain⟨b1,off,c,el,fz,rfl,q2,q3,q4,q5⟩:=h4 hc;exact⟨b1,off,c,el,fz,rfl,by rw[hnb 0 _ rfl (by omega) b1 ⟨hc,rfl⟩];exact q2,q3,q4,λi hi'=>q5 i (by simpa using hi')⟩
 by_cases e:j=i
 ·subst e;rw[hv]at hv';cases hv';rw[KV];exact hy hh
 rw[Kx e];exact(h.inner i (by simpa using hi') v' hv' hne).mono hF (hnb (i+1) v' (by simpa using hv') (by omega))
def cM(w0:World)(M:Own)(m:Mem)(u:Value):Prop:=
 ∀ b,HB u b->(w0.heap.size<=b\/M b)/\¬m.F b/\b<m.w.heap.size/\∀ id o,m.G.get id=some o->isObj o=true->¬HB (m.ι id) b
theorem zL (hi:Inv C w0 M m){id:Nat}{o:Obj}(hg:m.G.get id=some o) :
  Inv C w0 M ⟨m.w,m.F,m.ι,(id,.dead)::m.G⟩/\Evo m ⟨m.w,m.F,m.ι,(id,.dead)::m.G⟩/\(isObj o=true->∀ b,HB (m.ι id) b->(w0.heap.size<=b\/M b)/\¬m.F b/\b<m.w.heap.size/\∀ k p,Heap.get ((id,.dead)::m.G) k=some p->isObj p=true->¬HB (m.ι k) b):=by
 have he:Evo m ⟨m.w,m.F,m.ι,(id,.dead)::m.G⟩:=by
  refine⟨λb hF=>⟨hF,rfl⟩,λk p hp=>?_⟩;by_cases e:id=k
  ·exact⟨.dead,by rw[Heap.get_cons,if_pos e],.inl rfl⟩
  exact⟨p,by rw[Heap.get_cons,if_neg e];exact hp,.inr (Goon.refl _ p)⟩
 refine⟨⟨hi.kept,?_,?_,?_,hi.fro,λg τ x hg=>hi.glob g τ x hg,hi.bnd,bI he hi.pin⟩,he,?_⟩
 ·intro k p hp;rw[Heap.get_cons]at hp;split at hp
  ·simp at hp;subst hp;trivial
  exact bL he rfl (λ_ _=>rfl) (hi.objs k p hp)
 ·intro k p b hp hop hb;rw[Heap.get_cons]at hp;split at hp
  ·simp at hp;subst hp;simp[isObj]at hop
  exact hi.own k p b hp hop hb
 ·intro j k p q b hp hop hq hoq h1 h2;rw[Heap.get_cons]at hp hq;split at hp
  ·simp at hp;subst hp;simp[isObj]at hop
  split at hq
  ·simp at hq;subst hq;simp[isObj]at hoq
  exact hi.inj j k p q b hp hop hq hoq h1 h2
 intro hob b hb;obtain⟨k1,k2,k3⟩:=hi.own id o b hg hob hb;refine⟨k1,k2,k3,λk p hp hop hb'=>?_⟩;rw[Heap.get_cons]at hp;split at hp
 ·simp at hp;subst hp;simp[isObj]at hop
 rename_i hne;exact hne (hi.inj id k o p b hg hob hp hop hb hb')
theorem zf{id:Nat}{u:Value}(h:cM w0 M m u):cM w0 M ⟨m.w,m.F,m.ι,(id,.dead)::m.G⟩ u:=by
 intro b hb;obtain⟨k1,k2,k3,k4⟩:=h b hb;refine⟨k1,k2,k3,λk p hp hop=>?_⟩;change Heap.get ((id,.dead)::m.G) k=_ at hp;rw[Heap.get_cons]at hp;split at hp
 ·simp at hp;subst hp;simp[isObj]at hop
 exact k4 k p hp hop
theorem jT:∀(ids:List Nat) {m:Mem},Inv C w0 M m->(∀ i∈ids,∃ o,m.G.get i=some o) ->
  Inv C w0 M ⟨m.w,m.F,m.ι,aq ids m.G⟩/\Evo m ⟨m.w,m.F,m.ι,aq ids m.G⟩/\(∀ u,cM w0 M m u->cM w0 M ⟨m.w,m.F,m.ι,aq ids m.G⟩ u) /\
   ∀ i∈ids,∀ o,m.G.get i=some o->isObj o=true->∀ b,HB (m.ι i) b->(w0.heap.size<=b\/M b)/\¬m.F b/\b<m.w.heap.size/\∀ k p,(aq ids m.G).get k=some p->isObj p=true->¬HB (m.ι k) b
 |[],m,hi,_=>⟨hi,Evo.refl m,λ_ h=>h,λi hi=>by simp at hi⟩
 |i::r,m,hi,hex=>by
  obtain⟨o,ho⟩:=hex i (by simp);obtain⟨a1,a2,a3⟩:=zL hi ho;obtain⟨b1,b2,b3,b4⟩:=jT r a1 (λk hk=>by
   obtain⟨p,hp⟩:=hex k (by simp[hk]);show ∃ o,Heap.get ((i,.dead)::m.G) k=some o;rw[Heap.get_cons];split
   ·exact⟨_,rfl⟩
   exact⟨p,hp⟩)
  refine⟨b1,a2.trans b2,λu hu=>b3 u (zf hu),λk hk p hp hop b hb=>?_⟩;by_cases e:i=k
  ·subst e;rw[ho]at hp;cases hp;have hf:cM w0 M ⟨m.w,m.F,m.ι,(i,.dead)::m.G⟩ (m.ι i):=λb hb=>a3 hop b hb;exact b3 _ hf b hb
  have hk':k∈r:=by
   rcases A8.1 hk with h|h
   ·exact absurd h.symm e
   exact h
  exact b4 k hk' p (by show Heap.get ((i,.dead)::m.G) k=_;rw[Heap.get_cons,if_neg e];exact hp) hop b hb
theorem rD (hi:Inv C w0 M m){w1:World}{Mc:Nat->Prop}(hk:Kept m.w Mc w1)(hMc:∀ b,Mc b->(w0.heap.size<=b\/M b)/\¬ m.F b/\∀ id o,m.G.get id=some o->isObj o=true->¬ HB (m.ι id) b) :
  Inv C w0 M ⟨w1,m.F,m.ι,m.G⟩/\Evo m ⟨w1,m.F,m.ι,m.G⟩:=by
 have he:Evo m ⟨w1,m.F,m.ι,m.G⟩:=⟨λb hF=>⟨hF,hk.block b (hi.fro b hF) (λh=>(hMc b h).2.1 hF)⟩,λ_ o h=>⟨o,h,.inr (Goon.refl _ o)⟩⟩;refine⟨⟨?_,?_,?_,hi.inj,?_,?_,hi.bnd,bI he hi.pin⟩,he⟩
 ·refine⟨hk.os.trans hi.kept.os,hk.tape.trans hi.kept.tape,hk.output.trans hi.kept.output,Nat.le_trans hi.kept.size hk.size,λb hb hM=>?_⟩;have:=hi.kept.size;refine(hk.block b (by omega) (λh=>?_)).trans (hi.kept.block b hb hM);rcases(hMc b h).1 with h|h
  ·omega
  exact hM h
 ·intro id p hp;by_cases hop:isObj p=true
  ·exact bL he rfl (λb hb=>hk.block b (hi.own id p b hp hop hb).2.2 (λh=>(hMc b h).2.2 id p hp hop hb)) (hi.objs id p hp)
  cases p<;>simp_all[isObj,cQ]
 ·intro id p b hp hop hbl;obtain⟨h1,h2,h3⟩:=hi.own id p b hp hop hbl;exact⟨h1,h2,JQ h3 hk.size⟩
 ·intro b hF;exact JQ (hi.fro b hF) hk.size
 intro g τ x hx;exact(hi.glob g τ x hx).mono he.fro
theorem uT (hi:Inv C w0 M m){i:Nat}(hn:m.G.get i=none){h:Value}{o:Obj}(ho:cQ ⟨m.w,m.F,fun k=>if k=i then h else m.ι k,(i,o) :: m.G⟩ i o)(hf:cM w0 M m h) :
  Inv C w0 M ⟨m.w,m.F,λk=>if k=i then h else m.ι k,(i,o)::m.G⟩/\Evo m ⟨m.w,m.F,λk=>if k=i then h else m.ι k,(i,o)::m.G⟩:=by
 have he:Evo m ⟨m.w,m.F,λk=>if k=i then h else m.ι k,(i,o)::m.G⟩:=by
  refine⟨λb hF=>⟨hF,rfl⟩,λid p hp=>?_⟩;have hne:i≠id:=λe=>by subst e;rw[hn]at hp;cases hp
  exact⟨p,by rw[Heap.get_cons,if_neg hne];exact hp,.inr (.inl ⟨by simp[Ne.symm hne],Alike.refl p⟩)⟩
 refine⟨⟨hi.kept,?_,?_,?_,hi.fro,λg τ x hg=>hi.glob g τ x hg,hi.bnd,bI he hi.pin⟩,he⟩
 ·intro id p hp;rw[Heap.get_cons]at hp;split at hp
  ·rename_i e0;subst e0;simp only[aw]at hp;subst hp;exact ho
  rename_i hne;exact bL he (by simp[Ne.symm hne]) (λ_ _=>rfl) (hi.objs id p hp)
 ·intro id p b hp hop hbl;rw[Heap.get_cons]at hp;split at hp
  ·rename_i e0;subst e0;obtain⟨h1,h2,h3,_⟩:=hf b (by simpa using hbl);exact⟨h1,h2,h3⟩
  rename_i hne;exact hi.own id p b hp hop (by simpa[Ne.symm hne]using hbl)
 intro j k p q b hp hop hq hoq hj hk;rw[Heap.get_cons]at hp hq;split at hp<;>split at hq
 ·omega
 ·rename_i e0 hne;subst e0
  exact absurd (by simpa[Ne.symm hne]using hk) ((hf b (by simpa using hj)).2.2.2 k q hq hoq)
 ·rename_i hne e0;subst e0
  exact absurd (by simpa[Ne.symm hne]using hj) ((hf b (by simpa using hk)).2.2.2 j p hp hop)
 rename_i n1 n2;exact hi.inj j k p q b hp hop hq hoq (by simpa[Ne.symm n1]using hj) (by simpa[Ne.symm n2]using hk)
theorem we{us:List Value}(h1:∀ v∈us,v.oneCell'=true)(h:∀ v∈us,cM w0 M m v):cM w0 M m (.tuple us.toArray):=by intro b hb;obtain⟨v,hv,hb⟩:=(bY h1).1 hb;exact h v hv b hb
theorem gP (hi:Inv C w0 M m){i:Nat}(hn:m.G.get i=none){u:Value}{hs:List Value}{τ : Ty}{l:List (List τ.den)}(hd:DeepW m.w m.F u hs τ l none)(hf:∀ v∈u :: hs,cM w0 M m v) :
  ∃ m',m'.w=m.w/\m'.F=m.F/\m'.G=(i,.deep 0 τ l none)::m.G/\m'.ι=(λk=>if k=i then .tuple (u::hs).toArray else m.ι k)/\Inv C w0 M m'/\Evo m m'/\ai m' u (.ownd i):=by
 obtain⟨g1,g2⟩:=uT hi hn (h:=.tuple (u::hs).toArray) (o:=.deep 0 τ l none) ⟨u,hs,by simp,hd⟩ (we hd.one hf);exact⟨⟨m.w,m.F,λk=>if k=i then .tuple (u::hs).toArray else m.ι k,(i,.deep 0 τ l none)::m.G⟩,rfl,rfl,rfl,rfl,g1,g2,hd.one u (by simp),.deep 0 τ l none,by rw[Heap.get_cons,if_pos rfl],(u::hs).toArray,by simp,by simp⟩
theorem vi (hi:Inv C w0 M m){id ver j i:Nat}{τ : Ty}{l:List (List τ.den)}(hg:m.G.get id=some (.deep ver τ l none))(hj:j < l.length)(hn:m.G.get i=none){v:Value}(hv:∃ us,m.ι id=.tuple us/\us[j+1]?=some v) :
  ∃ m',m'.w=m.w/\m'.F=m.F/\m'.G=(i,.arr τ l[j])::(id,.deep (ver+1) τ l (some j))::m.G/\Inv C w0 M m'/\Evo m m'/\ai m' v (.own i):=by
 obtain⟨u,hs,h1,h2⟩:=cr hi hg;obtain⟨us,h3,h4⟩:=hv;rw[h1]at h3;simp only[Value.tuple.injEq]at h3;subst h3;simp only[Jy,JG]at h4;have hne:i≠id:=λe=>by subst e;rw[hn]at hg;cases hg
 have hjs:j<hs.length:=by rw[h2.len];exact hj
 have hvH:=h2.inner j hj v h4 (by simp);obtain⟨ι',hι'⟩:∃ ι':Nat->Value,ι'=λk=>if k=i then v else if k=id then .tuple (u::hs.set j (.slice none 0 0)).toArray else m.ι k:=⟨_,rfl⟩;have hιi:ι' i=v:=by rw[hι'];simp
 have hιd:ι' id=.tuple (u::hs.set j (.slice none 0 0)).toArray:=by rw[hι'];simp[Ne.symm hne]
 have hιo:∀ k,k≠i->k≠id->ι' k=m.ι k:=λk a b=>by rw[hι'];simp[a,b]
 have hd':DeepW m.w m.F u (hs.set j (.slice none 0 0)) τ l (some j):=by
  refine⟨by simpa using h2.len,?_,λk hk v' hv' hne'=>?_,λk v' hk hv'=>?_,?_⟩
  ·obtain⟨ad,cap,rfl,q2,q3,q4⟩:=h2.outer;refine⟨ad,cap,rfl,q2,q3,λhc=>?_⟩;obtain⟨b,off,c,el,fz,rfl,r2,r3,r4,r5⟩:=q4 hc;refine⟨b,off,c,el,fz,rfl,r2,r3,r4,λk hk hne'=>?_⟩;rw[r5 k hk (by simp),Js (by intro e;exact hne' (by rw[e]))]
  ·rw[Js (by intro e;exact hne' (by rw[e]))]at hv';exact h2.inner k hk v' hv' (by simp)
  ·cases hk;rw[Jx hjs]at hv';cases hv';rfl
  have hnil:∀ b,¬HB (.slice none 0 0) b:=λb hb=>by simp[HB,HB1]at hb
  rw[cm,Ks];intro p q hp hq hpq b hb1 hb2;have get:∀ k (hk:k<(u::hs.set j (.slice none 0 0)).length),(u::hs.set j (.slice none 0 0))[k]=.slice none 0 0\/(u::hs)[k]?=some (u::hs.set j (.slice none 0 0))[k]:=by
   intro k hk;cases k with
   |zero=>right;simp
   |succ k=>
    simp only[LN,JG];by_cases e:j=k
    ·subst e;left;simp
    right;simp only[B6,Ka]at hk;rw[Kx e,A1]
  rcases get p hp with e|e
  ·rw[e]at hb1;exact hnil b hb1
  rcases get q hq with e'|e'
  ·rw[e']at hb2;exact hnil b hb2
  exact i6 h2.apart (by omega) e e' hb1 hb2
 have get3:∀ k,Heap.get ((i,.arr τ l[j])::(id,.deep (ver+1) τ l (some j))::m.G) k=if i=k then some (.arr τ l[j])else if id=k then some (.deep (ver+1) τ l (some j))else m.G.get k:=by intro k;rw[Heap.get_cons,Heap.get_cons]
 have he:Evo m ⟨m.w,m.F,ι',(i,.arr τ l[j])::(id,.deep (ver+1) τ l (some j))::m.G⟩:=by
  refine⟨λb hb=>⟨hb,rfl⟩,λk p hp=>?_⟩;have hik:i≠k:=λe=>by subst e;rw[hn]at hp;cases hp
  by_cases e:id=k
  ·subst e;rw[hg]at hp;cases hp;refine⟨_,by rw[get3,if_neg hik,if_pos rfl],.inr (.inr ?_)⟩;show lV (m.ι id) (ι' id) _ _;rw[h1,hιd];exact⟨Mp _,rfl,rfl,_,_,rfl,rfl,by simp⟩
  refine⟨p,by rw[get3,if_neg hik,if_neg e];exact hp,.inr (.inl ⟨hιo k (Ne.symm hik) (Ne.symm e),Alike.refl p⟩)⟩
 have hbv:∀ b,HB v b->HB (m.ι id) b:=λb hb=>by rw[h1,bY h2.one];exact⟨v,Jq _ (Jv h4),hb⟩
 have hbd:∀ b,HB (ι' id) b->HB (m.ι id) b/\¬HB v b:=by
  intro b hb;rw[hιd,bY hd'.one]at hb;obtain⟨v',hv',hb⟩:=hb;obtain⟨k,hk⟩:=J7.1 hv';have key:k≠j+1/\(u::hs)[k]?=some v':=by
   cases k with
   |zero=>exact⟨by omega,hk⟩
   |succ k=>
    simp only[JG]at hk ⊢;by_cases e:j=k
    ·subst e;rw[Jx hjs]at hk;cases hk;simp[HB,HB1]at hb
    rw[Js e]at hk;exact⟨by omega,hk⟩
  refine⟨?_,λhbv'=>i6 h2.apart key.1 key.2 (by simpa using h4) hb hbv'⟩;rw[h1,bY h2.one];exact⟨v',Jv key.2,hb⟩
 -- whose block it is
 have src:∀ k p b,Heap.get ((i,.arr τ l[j]) :: (id,.deep (ver+1) τ l (some j)) :: m.G) k=some p->isObj p=true->HB (ι' k) b ->
   (k=i/\HB v b)\/(k=id/\HB (m.ι id) b/\¬HB v b)\/(k≠i/\k≠id/\m.G.get k=some p/\HB (m.ι k) b):=by
  intro k p b hp hop hb;rw[get3]at hp;split at hp
  ·rename_i e;subst e
   rw[hιi]at hb;exact .inl ⟨rfl,hb⟩
  rename_i hik;split at hp
  ·rename_i e;subst e
   exact .inr (.inl ⟨rfl,hbd b hb⟩)
  rename_i hid;rw[hιo k (Ne.symm hik) (Ne.symm hid)]at hb;exact .inr (.inr ⟨Ne.symm hik,Ne.symm hid,hp,hb⟩)
 refine⟨⟨m.w,m.F,ι',(i,.arr τ l[j])::(id,.deep (ver+1) τ l (some j))::m.G⟩,rfl,rfl,rfl,⟨hi.kept,?_,?_,?_,hi.fro,λg τ x hg=>hi.glob g τ x hg,hi.bnd,bI he hi.pin⟩,he,?_⟩
 ·intro k p hp;change Heap.get ((i,.arr τ l[j])::(id,.deep (ver+1) τ l (some j))::m.G) k=_ at hp;rw[get3]at hp;split at hp
  ·rename_i e;subst e
   cases hp;show HdrW m.w m.F (ι' i) τ l[j];rw[hιi];exact hvH
  rename_i hik;split at hp
  ·rename_i e;subst e
   cases hp;exact⟨u,_,hιd,hd'⟩
  rename_i hid;exact bL he (hιo k (Ne.symm hik) (Ne.symm hid)) (λ_ _=>rfl) (hi.objs k p hp)
 ·intro k p b hp hop hb;rcases src k p b hp hop hb with⟨_,h⟩|⟨_,h,_⟩|⟨_,_,h,h'⟩
  ·exact hi.own id _ b hg rfl (hbv b h)
  ·exact hi.own id _ b hg rfl h
  exact hi.own k p b h hop h'
 ·intro k k' p q b hp hop hq hoq hb hb';rcases src k p b hp hop hb with⟨e,h⟩|⟨e,h,hnv⟩|⟨n1,n2,h,h'⟩<;>rcases src k' q b hq hoq hb' with⟨e',g⟩|⟨e',g,gnv⟩|⟨n3,n4,g,g'⟩
  ·rw[e,e']
  ·exact absurd h gnv
  ·exact absurd (hi.inj id k' _ q b hg rfl g hoq (hbv b h) g') (Ne.symm n4)
  ·exact absurd g hnv
  ·rw[e,e']
  ·exact absurd (hi.inj id k' _ q b hg rfl g hoq h g') (Ne.symm n4)
  ·exact absurd (hi.inj k id p _ b h hop hg rfl h' (hbv b g)) n2
  ·exact absurd (hi.inj k id p _ b h hop hg rfl h' g) n2
  exact hi.inj k k' p q b h hop g hoq h' g'
 exact⟨bA hvH,.arr τ l[j],by rw[get3,if_pos rfl],λ_=>hιi.symm⟩
theorem Ba (hi:Inv C w0 M m){id ver j:Nat}{τ : Ty}{l:List (List τ.den)}{hole:Option Nat}(hg:m.G.get id=some (.deep ver τ l hole))(hj:j < l.length)(hh:hole=none\/hole=some j)
  {v:Value} {x:List τ.den} (hx:HdrW m.w m.F v τ x) (hf:cM w0 M m v) {w1:World} {b off cap:Nat} {c:Array Value} {el:TypeId} {fz:Nat×Nat} {us:Array Value} (hu:m.ι id=.tuple us) (hu0:us[0]?=some (.slice (some ⟨b,off,none⟩) l.length cap)) (hc0:cap≠0)
  (hb:m.w.heap[b]?=some (.cells c el fz)) (hw:Wrote m.w b w1) (hb1:w1.heap[b]?=some (.cells (aM c (off+j) [v]) el fz)) :
  ∃ m',m'.w=w1/\m'.F=m.F/\m'.G=(id,.deep (ver+1) τ (l.set j x) none)::m.G/\Inv C w0 M m'/\Evo m m':=by
 obtain⟨u,hs,h1,h2⟩:=cr hi hg;rw[h1]at hu;simp only[Value.tuple.injEq]at hu;subst hu;simp only[Jy,Ju,aw]at hu0;subst hu0;have hjs:j<hs.length:=by rw[h2.len];exact hj
 have hbo:HB (m.ι id) b:=by rw[h1,bY h2.one];exact⟨_,JH ..,hc0,rfl⟩
 obtain⟨o1,o2,o3⟩:=hi.own id _ b hg rfl hbo;have hvb:¬HB v b:=λh=>(hf b h).2.2.2 id _ hg rfl hbo;have hF:∀ b',m.F b'->m.F b'/\w1.heap[b']?=m.w.heap[b']?:=λb' hb'=>⟨hb',hw.block b' (λe=>o2 (e▸hb'))⟩;obtain⟨ι',hι'⟩:∃ ι':Nat->Value,ι'=λk=>if k=id then .tuple (.slice (some ⟨b,off,none⟩) l.length cap::hs.set j v).toArray else m.ι k:=⟨_,rfl⟩;have hιd:ι' id=.tuple (.slice (some ⟨b,off,none⟩) l.length cap::hs.set j v).toArray:=by rw[hι'];simp
 have hιo:∀ k,k≠id->ι' k=m.ι k:=λk a=>by rw[hι'];simp[a]
 have hd':DeepW w1 m.F (.slice (some ⟨b,off,none⟩) l.length cap) (hs.set j v) τ (l.set j x) none:=by
  obtain⟨ad,cap',e1,q2,q3,q4⟩:=h2.outer;simp only[Value.slice.injEq,true_and]at e1;obtain⟨rfl,rfl⟩:=e1;obtain⟨b',off',c',el',fz',e2,r2,r3,r4,r5⟩:=q4 hc0;cases e2;rw[hb]at r2;cases r2;have hfit:off+j+[v].length<=c.size:=by simp;omega
  refine⟨by simpa using h2.len,⟨_,cap,by simp,by simpa using q2,q3,λ_=>⟨b,off,_,el,fz,rfl,hb1,by rw[bw _ _ _ hfit];exact r3,by rw[bw _ _ _ hfit];exact r4,λk hk _=>?_⟩⟩,λk hk v' hv' _=>?_,λk v' hk=>(by cases hk),?_⟩
  ·simp only[Ka]at hk;rw[dq _ _ _ hfit];by_cases e:j=k
   ·subst e;rw[if_pos (by simp),Jx hjs];simp
   rw[if_neg (by simp only[B6,JB];omega),Js e];exact r5 k hk (by rcases hh with rfl|rfl<;>simp[e])
  ·simp only[Ka]at hk;by_cases e:j=k
   ·subst e;rw[Jx hjs]at hv';cases hv';rw[KV];exact hx.mono hF (λb' hb'=>hw.block b' (λe=>by subst e;exact hvb hb'))
   rw[Js e]at hv';rw[Kx e];refine(h2.inner k hk v' hv' (by rcases hh with rfl|rfl<;>simp[e])).mono hF (λb' hb'=>hw.block b' (λe=>?_));subst e;exact i6 h2.apart (i:=0) (j:=k+1) (by omega) rfl (by simpa using hv') ⟨hc0,rfl⟩ hb'
  have old:∀ k v',(Value.slice (some ⟨b,off,none⟩) l.length cap::hs)[k]?=some v'->∀ b',HB v' b'->HB (m.ι id) b':=λk v' hk b' hb'=>by rw[h1,bY h2.one];exact⟨v',Jv hk,hb'⟩
  have get:∀ k (hk:k<(Value.slice (some ⟨b,off,none⟩) l.length cap::hs.set j v).length),(k=j+1/\(Value.slice (some ⟨b,off,none⟩) l.length cap::hs.set j v)[k]=v)\/(k≠j+1/\(Value.slice (some ⟨b,off,none⟩) l.length cap::hs)[k]?=some (Value.slice (some ⟨b,off,none⟩) l.length cap::hs.set j v)[k]):=by
   intro k hk;cases k with
   |zero=>right;simp
   |succ k=>
    simp only[LN,JG];by_cases e:j=k
    ·subst e;left;simp
    right;simp only[B6,Ka]at hk;refine⟨by omega,?_⟩;rw[Kx e,A1]
  rw[cm,Ks];intro p q hp hq hpq b' hb1' hb2';rcases get p hp with⟨e0,e⟩|⟨_,e⟩<;>rcases get q hq with⟨e0',e'⟩|⟨_,e'⟩
  ·omega
  ·rw[e]at hb1';exact(hf b' hb1').2.2.2 id _ hg rfl (old q _ e' b' hb2')
  ·rw[e']at hb2';exact(hf b' hb2').2.2.2 id _ hg rfl (old p _ e b' hb1')
  exact i6 h2.apart (by omega) e e' hb1' hb2'
 have hbd:∀ b',HB (ι' id) b'->HB (m.ι id) b'\/HB v b':=by
  intro b' hb';rw[hιd,bY hd'.one]at hb';obtain⟨v',hv',hb'⟩:=hb';rcases A8.1 hv' with rfl|hv'
  ·left;rw[h1,bY h2.one];exact⟨_,JH ..,hb'⟩
  rcases La hv' with hv'|rfl
  ·left;rw[h1,bY h2.one];exact⟨_,Jq _ hv',hb'⟩
  exact .inr hb'
 have he:Evo m ⟨w1,m.F,ι',(id,.deep (ver+1) τ (l.set j x) none)::m.G⟩:=by
  refine⟨hF,λk p hp=>?_⟩;by_cases e:id=k
  ·subst e;rw[hg]at hp;cases hp;refine⟨_,by rw[Heap.get_cons,if_pos rfl],.inr (.inr ?_)⟩;show lV (m.ι id) (ι' id) _ _;rw[h1,hιd];exact⟨Mp _,rfl,by simp,_,_,rfl,rfl,by simp⟩
  exact⟨p,by rw[Heap.get_cons,if_neg e];exact hp,.inr (.inl ⟨hιo k (Ne.symm e),Alike.refl p⟩)⟩
 refine⟨⟨w1,m.F,ι',(id,.deep (ver+1) τ (l.set j x) none)::m.G⟩,rfl,rfl,rfl,⟨?_,?_,?_,?_,?_,?_,hi.bnd,bI he hi.pin⟩,he⟩
 ·refine⟨hw.os.trans hi.kept.os,hw.tape.trans hi.kept.tape,hw.output.trans hi.kept.output,by show _<=w1.heap.size;rw[hw.size];exact hi.kept.size,λk hk hM=>?_⟩;refine(hw.block k ?_).trans (hi.kept.block k hk hM);intro e;subst e
  rcases o1 with o1|o1
  ·omega
  exact hM o1
 ·intro k p hp;change Heap.get ((id,.deep (ver+1) τ (l.set j x) none)::m.G) k=_ at hp;rw[Heap.get_cons]at hp;split at hp
  ·rename_i e;subst e
   cases hp;exact⟨_,_,hιd,hd'⟩
  rename_i hne;by_cases hop:isObj p=true
  ·refine bL he (hιo k (Ne.symm hne)) (λb' hb'=>hw.block b' ?_) (hi.objs k p hp);intro e;subst e
   exact hne (hi.inj id k _ p b' hg rfl hp hop hbo hb')
  cases p<;>simp_all[isObj,cQ]
 ·intro k p b' hp hop hb';change Heap.get ((id,.deep (ver+1) τ (l.set j x) none)::m.G) k=_ at hp;rw[Heap.get_cons]at hp;have:(w0.heap.size<=b'\/M b')/\¬m.F b'/\b'<m.w.heap.size:=by
   split at hp
   ·rename_i e;subst e
    rcases hbd b' hb' with h|h
    ·exact hi.own id _ b' hg rfl h
    obtain⟨k1,k2,k3,_⟩:=hf b' h;exact⟨k1,k2,k3⟩
   rename_i hne;exact hi.own k p b' hp hop (by rw[<- hιo k (Ne.symm hne)];exact hb')
  exact⟨this.1,this.2.1,by show b'<w1.heap.size;rw[hw.size];exact this.2.2⟩
 ·intro k k' p q b' hp hop hq hoq hb hb';change Heap.get ((id,.deep (ver+1) τ (l.set j x) none)::m.G) _=_ at hp hq;rw[Heap.get_cons]at hp hq;split at hp<;>split at hq
  ·omega
  ·rename_i e hne;subst e
   have hb':HB (m.ι k') b':=by rw[<- hιo k' (Ne.symm hne)];exact hb'
   rcases hbd b' hb with h|h
   ·exact hi.inj id k' _ q b' hg rfl hq hoq h hb'
   exact absurd hb' ((hf b' h).2.2.2 k' q hq hoq)
  ·rename_i hne e;subst e
   have hb:HB (m.ι k) b':=by rw[<- hιo k (Ne.symm hne)];exact hb
   rcases hbd b' hb' with h|h
   ·exact hi.inj k id p _ b' hp hop hg rfl hb h
   exact absurd hb ((hf b' h).2.2.2 k p hp hop)
  rename_i n1 n2;exact hi.inj k k' p q b' hp hop hq hoq (by rw[<- hιo k (Ne.symm n1)];exact hb) (by rw[<- hιo k' (Ne.symm n2)];exact hb')
 ·intro b' hF';show b'<w1.heap.size;rw[hw.size];exact hi.fro b' hF'
 intro g τ x hx;exact(hi.glob g τ x hx).mono he.fro
end
end Go.Vm

/-
 The machine's operations against the model's: memory.
-/
namespace Go.Vm
section
variable {P:Program}{C:Ctx}{w0:World}{M:Own}{o:Oper}{a:Act}{m:Mem}{s s':St}
theorem fW{R:Type}{v:SV}{K:Int->Option R}{r:R}(h:asI v K=some r):∃(k:IntKind) (n:Int),v=.av (.val (.int k) n)/\K n=some r:=by
 unfold asI at h;split at h
 ·exact⟨_,_,rfl,h⟩
 simp at h
theorem mp (hi:Inv C w0 M m){id:Nat}{τ : Ty}{l:List τ.den}(hg:m.G.get id=some (.arr τ l)){j:Nat}(hj:j < l.length) :
  ∃ b off cap c el fz,m.ι id=.slice (some ⟨b,off,none⟩) l.length cap/\l.length<=cap/\cap≠0/\m.w.heap[b]?=some (.cells c el fz)/\eo τ c.size fz/\off+cap*τ.size<=c.size /\
   off+j*τ.size+τ.size<=c.size/\(∀ i (h:i<l.length),Rd m.w m.F τ (seg c (off+i*τ.size) τ.size) l[i])/\cap<=maxLen:=by
 obtain⟨ad,cap,h1,h2,h3,h4⟩:=hi.objs id _ hg;have hc:cap≠0:=by omega
 obtain⟨b,off,c,el,fz,rfl,q2,q3,q4,q5⟩:=h4 hc;refine⟨b,off,cap,c,el,fz,h1,h2,hc,q2,q3,q4,?_,q5,h3⟩;have:(j+1)*τ.size<=cap*τ.size:=B1 _ (by omega);rw[B8]at this;omega
theorem ki {k:IntKind}:∀{us:List Value} {l:List Atom} {xs:List Int},jc k l=some xs->Rel2 (ai m) us l ->
  us.length=xs.length/\∀ i,i<xs.length->∃ u,us[i]?=some u/\ai m u (.val (.int k) (xs.getD i 0))
 |[],[],xs,h,_=>by simp[jc]at h;subst h;simp
 |_::_,[],_,_,h=>h.elim
 |[],_::_,_,_,h=>h.elim
 |u::us,b::l,xs,h,hr=>by
  unfold jc at h;split at h
  ·simp_all
  ·rename_i k' x r he;simp only[KJ]at he;obtain⟨rfl,rfl⟩:=he;cases hk:decide (k'=k)with
   |false=>rw[hk]at h;simp at h
   |true=>
    have:k'=k:=by simpa using hk
    subst this;rw[hk,UA]at h;split at h
    ·rename_i ys hy;cases h;obtain⟨h1,h2⟩:=ki hy hr.2;refine⟨by simp[h1],λi hi=>?_⟩;cases i with
     |zero=>exact⟨u,rfl,hr.1⟩
     |succ i=>obtain⟨v,q1,q2⟩:=h2 i (by simpa using hi);exact⟨v,by simpa using q1,by simpa using q2⟩
    simp at h
  simp at h
theorem mG {m':Mem}{k:IntKind}{y:Int}{v:Value}{idx:Nat}(hv:ai m' v (.val (.int k) y)):∀{us:List Value} {xs:List Int} {j:Nat},us.length=xs.length ->
  (∀ i,i<xs.length->∃ u,us[i]?=some u/\ai m' u (.val (.int k) (xs.getD i 0)))->Rel2 (ai m') (if j<=idx then us.set (idx-j) v else us) (setCells k idx y j xs)
 |[],[],j,_,_=>by split<;>simp[setCells,Rel2]
 |_::_,[],_,h,_=>by simp at h
 |[],_::_,_,h,_=>by simp at h
 |u::us,x::xs,j,h,hr=>by
  have ih:=mG (idx:=idx) (us:=us) (xs:=xs) (j:=j+1) hv (by simpa using h) (λi hi=>by
   obtain⟨w,q1,q2⟩:=hr (i+1) (by simpa using hi);exact⟨w,by simpa using q1,by simpa using q2⟩)
  obtain⟨u0,q1,q2⟩:=hr 0 (by simp);simp only[Ju,aw]at q1;subst q1;simp only[List.getD_cons_zero]at q2;unfold setCells;by_cases e:idx=j
  ·subst e;rw[if_neg (by omega)]at ih;simp only[B2,if_true,Nat.sub_self,List.set_cons_zero,KP,UA];exact⟨hv,ih⟩
  have eb:A7 idx j=false:=by
   cases hb:A7 idx j with
   |false=>rfl
   |true=>exact absurd (A3 hb) e
  rw[eb,UB];by_cases hj:j<=idx
  ·rw[if_pos hj];rw[if_pos (by omega)]at ih;have:idx-j=(idx-(j+1))+1:=by omega
   rw[this,List.set_cons_succ];exact⟨q2,ih⟩
  rw[if_neg hj];rw[if_neg (by omega)]at ih;exact⟨q2,ih⟩
theorem Fa {t:TypeId}{x:Operand}(hT:cb P C.tab=true)(hi:Inv C w0 M m)(hG:m.G=s.G)(hS:∀ x,RelSV m (a.eval x) (ah C s.env x))(ho:o.op=.load t x)
  (h:aZ C o s some=some s'):Does P o a m.w (Res C w0 M m s s' o.dst):=by
 simp only[au,aK,ho]at h;have hx:=hS x;have fin {v:Value} {ad:Addr} {sv:SV} (hv:a.eval x=.pointer (some ad)) (hl:(loadVar t ad).run P m.w=.ok v m.w) (hr:RelSV m v sv) (hs:some (ag o.dst sv s)=some s') :
   Does P o a m.w (Res C w0 M m s s' o.dst):=
  aB hi hG (v:=v) (by simp[execOp,ho,hv,Instr.loadAt,Instr.sureAddr,hl]) hr hs
 split at h
 ·rename_i τ p ht hp;have hck:=pX hT ht;rw[hp]at hx;unfold loadAt at h;split at h
  ·rename_i id off;obtain⟨_,ob,hob,hv⟩:=(ao (m:=m) (a:=.ptr id off) (by intros;simp)).1 hx;rw[hG]at hob;split at h
   ·rename_i l hl;rw[hl]at hob;simp only[aw]at hob;subst hob;obtain⟨b,hι,hv⟩:=hv;obtain⟨b',c,el,h1,h2,h3,h4⟩:=hi.objs id _ (hG▸hl);rw[hι]at h1;simp only[Value.pointer.injEq,aw,Addr.mk.injEq,and_true]at h1;subst h1;split at h
    ·rename_i cs hcs;obtain⟨rfl,hle⟩:=gF hcs;have hlen:=h4.length;simp only[JD,JU]at hlen hle;by_cases hz:off+τ.size<=c.size
     ·refine fin hv (dt hck h2 hz) (iF ?_ ((h4.drop off).take τ.size)) h;intro u hu;exact h3 u (J3 (JV hu))
     have hz0:τ.size=0:=by omega
     cases ha:τ.isAgg with
     |false=>have:=ej ha;omega
     |true=>
      refine fin (v:=.agg #[]) (sv:=d8 τ ((l.drop off).take τ.size)) hv ?_ ?_ h
      ·simp[loadVar,hck.agg,ha,hck.size,hz0,loadCells,loadCellsFrom]
      rw[hz0];simp only[List.take_zero,d8,ha,UA];exact⟨[],rfl,by simp,trivial⟩
    simp at h
   simp at h
  ·rename_i id j p';obtain⟨_,ob,hob,hv⟩:=(ao (m:=m) (a:=.aptr id j p') (by intros;simp)).1 hx;rw[hG]at hob;split at h
   ·rename_i σ l hl;rw[hl]at hob;simp only[aw]at hob;subst hob;obtain⟨hj,b,off,n,cap,q,hι,hq,hv⟩:=hv;obtain⟨b',off',cap',c,el,fz,h1,h2,h3,h4,h5,h6,h7,h8,h9⟩:=mp hi (hG▸hl) hj;rw[hι]at h1;simp only[Value.slice.injEq,aw,Addr.mk.injEq,and_true]at h1;obtain⟨⟨rfl,rfl⟩,rfl,rfl⟩:=h1;rw[A1 hj]at h;simp only[dg]at h;split at h
    ·rename_i t' y hy;obtain⟨o',r1,r2,r3⟩:=pB hy (h8 j hj);rw[r1]at hq;simp only[aw]at hq;subst hq;split at h
     ·rename_i z hz;obtain⟨e,hz⟩:=aD hz;subst e;subst hz
      have hseg:((seg c (off+j*σ.size) σ.size).drop o').take t'.size=seg c (off+j*σ.size+o') t'.size:=by unfold seg;rw[er _ _ _ _ _ r2]
      rw[hseg]at r3;exact fin hv (dt hck h4 (by simp only;omega)) (sT r3) h
     simp at h
    simp at h
   ·rename_i ver σ l hl;rw[hl]at hob;simp only[aw]at hob;subst hob;obtain⟨hj,rfl,b,off,n,cap,us,hι,h0,hv⟩:=hv;by_cases hτ:τ=.slice σ
    ·subst hτ;simp only[decide_true,Mf,MB,UA]at h;obtain⟨u,hs,h1,h2⟩:=cr hi (hG▸hl);obtain⟨b',off',cap',c,el,fz,v,q1,q2,q3,q4,q5,q6,q7,q8⟩:=nB h2 hj;obtain⟨q8,q9⟩:=q8 (by simp);rw[h1]at hι;simp only[Value.tuple.injEq]at hι;subst hι;simp only[Jy,Ju,aw]at h0;rw[h0]at q1;simp only[Value.slice.injEq,aw,Addr.mk.injEq,and_true]at q1;obtain⟨⟨rfl,rfl⟩,rfl,rfl⟩:=q1;have hlt:off+j<c.size:=by omega
     have hld:=dt hck q3 (off:=off+j) (by simp only[Ty.size];omega);have hseg:seg c (off+j) (Ty.slice σ).size=[v]:=by obtain⟨_,e⟩:=Jt.1 q8;simp only[Ty.size,seg];rw[J5 (by simpa using hlt)];simp[e]
     rw[hseg]at hld;refine fin (sv:=.av (.sub id ver j)) hv hld ?_ h;exact(ao (m:=m) (v:=v) (a:=.sub id ver j) (by intros;simp)).2 ⟨bA q9,.deep ver σ l none,hG▸hl,B2 _,λ_=>⟨hj,rfl,_,h1,by simpa using q7⟩⟩
    simp[hτ]at h
   simp at h
  ·rename_i id ver j k;obtain⟨_,ob,hob,hv⟩:=(ao (m:=m) (a:=.saptr id ver j k) (by intros;simp)).1 hx;rw[hG]at hob;split at h
   ·rename_i ver' σ l hl;rw[hl]at hob;simp only[aw]at hob;subst hob;cases hb:A7 ver ver' with
    |false=>rw[hb]at h;simp at h
    |true=>
     rw[hb]at h;have:=A3 hb;subst this;obtain⟨hj,_,us,b,off,n,cap,hι,h0,hk,hv⟩:=hv.2 rfl;simp only[UA,jZ hj]at h;obtain⟨y,hy,h⟩:=A6.1 h;obtain⟨hkl,rfl⟩:=A2.1 hy;split at h
     ·rename_i z hz;obtain⟨e,hz⟩:=aD hz;subst e;subst hz
      obtain⟨u,hs,h1,h2⟩:=cr hi (hG▸hl);rw[h1]at hι;simp only[Value.tuple.injEq]at hι;subst hι;simp only[Jy,JG]at h0;have q9:=h2.inner j hj _ h0 (by simp);obtain⟨b',off',cap',c,el,fz,q1,q2,q3,q4,q5,q6⟩:=w7 q9 hkl;simp only[Value.slice.injEq,aw,Addr.mk.injEq,and_true]at q1;obtain⟨⟨rfl,rfl⟩,rfl,rfl⟩:=q1;exact fin hv (dt hck q3 (by omega)) (sT q6) h
     simp at h
   simp at h
  ·rename_i σ y;split at h
   ·rename_i z hz;obtain⟨e,hz⟩:=aD hz;subst e;subst hz
    obtain⟨b,off,c,el,fz,h1,h2,h3,h4,h5⟩:=pc hx;exact fin h1 (dt hck h3 h4) (sT h5) h
   simp at h
  ·rename_i id off cnt idx wd;obtain⟨_,ob,hob,hv⟩:=(ao (m:=m) (a:=.iptr id off cnt idx wd) (by intros;simp)).1 hx;rw[hG]at hob;split at h
   ·rename_i _ _ _ l k hl;rw[hl]at hob;simp only[aw]at hob;subst hob;obtain⟨hw,b,hι,hv⟩:=hv;obtain⟨b',c,el,h1,h2,h3,h4⟩:=hi.objs id _ (hG▸hl);rw[hι]at h1;simp only[Value.pointer.injEq,aw,Addr.mk.injEq,and_true]at h1;subst h1;split at h
    ·rename_i xs hxs;cases hb:(A7 wd 1&&A7 xs.length cnt)with
     |false=>rw[hb]at h;simp at h
     |true=>
      rw[hb]at h;simp only[UA]at h;simp only[np]at hb;have b1:=A3 hb.1;have b2:=A3 hb.2;obtain⟨r1,r2⟩:=ki hxs ((h4.drop off).take cnt);obtain⟨u,r3,r4⟩:=r2 idx (by omega);have hlt:off+idx<c.size:=by have:=(A2.1 r3).1;simp at this;omega
      rw[JC,if_pos (by omega),J2]at r3;have hseg:seg c (off+idx) (Ty.int k).size=[u]:=by obtain⟨_,e⟩:=A2.1 r3;simp only[Ty.size,seg];rw[J5 (by simpa using hlt)];simp[e]
      have hld:=dt hck h2 (off:=off+idx) (by simp only[Ty.size];omega);rw[hseg]at hld;exact fin (sv:=.av (.val (.int k) (xs.getD idx 0))) hv hld ⟨[u],by simp[toV,Ty.isAgg],r4.1⟩ h
    simp at h
   simp at h
  simp at h
 simp at h
theorem mT{τ:Ty}(hck:τ.isPC=false){G:Heap}{v:SV}{x:τ.den}(h:aR G τ v=some x):cP G v=bJ v:=by
 cases v with
 |av a=>
  cases a with
  |ptr _ _=>cases τ<;>simp[aR]at h;cases hck
  |clo _ _=>cases τ<;>simp[aR]at h;cases hck
  |_=>rfl
 |agg _=>rfl
 |tup _=>rfl
theorem bf:∀(ids:List Nat) (G:Heap) (i:Nat),i∉ids->(aq ids G).get i=G.get i
 |[],_,_,_=>rfl
 |j::r,G,i,h=>by simp only[A8,not_or]at h;show(aq r ((j,.dead)::G)).get i=_;rw[bf r _ i h.2,Heap.get_cons,if_neg (Ne.symm h.1)]
theorem oy (hi:Inv C w0 M m){σ : Ty}{v:SV}{u:Value}{x:List σ.den×List Nat}(h:oY m.G σ v=some x)(hr:RelSV m u v) :
  HdrW m.w m.F u σ x.1/\((x.2=[]/\∀ b,¬HB u b)\/∃ id,x.2=[id]/\m.G.get id=some (.arr σ x.1)/\u=m.ι id):=by
 unfold oY at h;split at h
 ·cases h;obtain⟨ad,rfl,_⟩:=hr;exact⟨⟨ad,0,rfl,by simp,by unfold maxLen;omega,λh=>absurd rfl h⟩,.inl ⟨rfl,λb hb=>by cases ad<;>simp[HB,HB1]at hb⟩⟩
 ·rename_i id;split at h
  ·rename_i τ l hg;split at h
   ·rename_i y hy;cases h;obtain⟨e,hy⟩:=aD hy;simp only[Ty.slice.injEq]at e;subst e;subst hy
    obtain⟨_,ob,hob,hv⟩:=hr;rw[hg]at hob;cases hob;have hv:=hv rfl;subst hv;exact⟨hi.objs id _ hg,.inr ⟨id,rfl,hg,rfl⟩⟩
   simp at h
  simp at h
 simp at h
theorem za{R:Type}{hole:Option Nat}{j:Nat}{K:Option R}{r:R}(h:um hole j K=some r):(hole=none\/hole=some j)/\K=some r:=by
 unfold um at h;split at h
 ·exact⟨.inl rfl,h⟩
 split at h
 ·rename_i e;subst e;exact⟨.inr rfl,h⟩
 simp at h
theorem Cv {t:TypeId}{x y:Operand}(hT:cb P C.tab=true)(hi:Inv C w0 M m)(hG:m.G=s.G)(hS:∀ x,RelSV m (a.eval x) (ah C s.env x))(ho:o.op=.store t x y)
  (h:aZ C o s some=some s'):Does P o a m.w (Res C w0 M m s s' o.dst):=by
 simp only[au,aK,ho]at h;have hx:=hS x;have hy:=hS y;split at h
 ·rename_i τ p ht hp;have hck:=pX hT ht;rw[hp]at hx;unfold storeAt at h;split at h
  ·rename_i id off;obtain⟨_,ob,hob,hv⟩:=(ao (m:=m) (a:=.ptr id off) (by intros;simp)).1 hx;rw[hG]at hob;split at h
   ·rename_i l hl;rw[hl]at hob;simp only[aw]at hob;subst hob;obtain⟨b,hι,hv⟩:=hv;obtain⟨b',c,el,h1,h2,h3,h4⟩:=hi.objs id _ (hG▸hl);rw[hι]at h1;simp only[Value.pointer.injEq,aw,Addr.mk.injEq,and_true]at h1;subst h1;split at h
    ·rename_i cs hcs;obtain⟨k1,k2⟩:=kZ hcs hy;cases hb:A7 cs.length τ.size with
     |false=>rw[hb]at h;simp at h
     |true=>
      rw[hb]at h;simp only[UA]at h;have hcl:=A3 hb;split at h
      ·rename_i l' hl';obtain⟨rfl,hle⟩:=lk hl';have hlen:=h4.length;have hlen2:=k1.length;simp only[JD]at hlen hlen2;have hst:=ew (te:=.unit) hck h2 (.inl (B2 _)) (off:=off) (by omega) (v:=a.eval y) (by omega) k2;obtain⟨g1,g2⟩:=di hi (id:=id) (o:=.box l) (o':=.box (l.take off++cs++l.drop (off+cs.length))) (b:=b) (hG▸hl) rfl (by rw[hι];rfl) trivial
        (w1:=m.w.setRow b (aM c off (a.eval y).cells.toList)) (cd _ _ _) (λhe=>by
         refine⟨b,_,el,hι,setRow_heap m.w b c _ el _ h2,?_,?_⟩
         ·intro u hu;simp only[aM,A4]at hu;rcases hu with(hu|hu)|hu
          ·exact h3 u (JV hu)
          ·exact k2 u hu
          exact h3 u (J3 hu)
         have e1:=cI he h4;have e2:=cI he k1;have hsp:(aM c off (a.eval y).cells.toList).toList=c.toList.take off++(a.eval y).cells.toList++c.toList.drop (off+cs.length):=by simp only[aM,<- hlen2,JD]
         rw[hsp];exact((e1.take off).append e2).append (e1.drop _))
       refine Does.skip (w':=m.w.setRow b (aM c off (a.eval y).cells.toList)) (by simp[execOp,ho,hv,Instr.storeAt,Instr.sureAddr,hst]) ⟨_,.av .undef,rfl,?_,g1,g2,rfl⟩;simp only[aw]at h;rw[<- h,hG];rfl
      simp at h
    simp at h
   simp at h
  ·rename_i id j p';obtain⟨_,ob,hob,hv⟩:=(ao (m:=m) (a:=.aptr id j p') (by intros;simp)).1 hx;rw[hG]at hob;split at h
   ·rename_i σ l hl;rw[hl]at hob;simp only[aw]at hob;subst hob;obtain⟨hj,b,off,n,cap,q,hι,hq,hv⟩:=hv;split at h
    ·rename_i z hz;rw[A1 hj]at h;simp only[dg]at h;split at h
     ·rename_i x' hx';cases hc:((bJ (ah C s.env y)).contains id||τ.isPC)with
      |true=>rw[hc]at h;simp at h
      |false=>
       rw[hc]at h;simp only[UB,aw]at h;rw[Lo]at hc;obtain⟨hc,hcl⟩:=hc;have hnot:id∉bJ (ah C s.env y):=by simpa using hc
       rw[<- hG]at hz;obtain⟨cs,hcs,hrd⟩:=db hi hz hy;rw[mT hcl hz]at hrd;obtain⟨m1,a1,a2,a3,a4,a5,a6⟩:=cE (bJ (ah C s.env y)) hi;have hrd1:Rd m1.w m1.F τ cs z:=hrd.mono (λb hb=>⟨a6 b hb,by rw[a1]⟩);have hg1:m1.G.get id=some (.arr σ l):=by rw[a3,bf _ _ _ hnot,hG];exact hl
       obtain⟨b',off',cap',c,el,fz,h1,h2,h3,h4,h5,h6,h7,h8,h9⟩:=mp a4 hg1 hj;rw[a2,hι]at h1;simp only[Value.slice.injEq,aw,Addr.mk.injEq,and_true]at h1;obtain⟨⟨rfl,rfl⟩,rfl,rfl⟩:=h1;obtain⟨o',r1,r2,r3⟩:=l6 hx' (h8 j hj) hrd1;rw[r1]at hq;simp only[aw]at hq;subst hq;have hvc:(a.eval y).cells=cs.toArray:=by rw[hcs];exact lJ hrd1
       have hlen:=hrd1.len;rw[a1]at h4;have hst:=ew hck h4 h5 (off:=off+j*σ.size+o') (by omega) (v:=a.eval y) (by rw[hvc];simpa using hlen) (by rw[hvc];simpa using hrd1.one);rw[hvc]at hst;simp only at hst;have hfit:off+j*σ.size+o'+cs.length<=c.size:=by omega
       obtain⟨g1,g2⟩:=di a4 (id:=id) (o:=.arr σ l) (o':=.arr σ (l.set j x')) (b:=b) hg1 rfl (by rw[a2,hι];simp[HB,HB1,h3]) ⟨rfl,by simp⟩
        (w1:=m.w.setRow b (aM c (off+j*σ.size+o') cs)) (by rw[a1];exact cd _ _ _) (λhe=>by
         refine⟨some ⟨b,off,none⟩,cap,by simp only[a2,hι,Ka],by simpa using h2,h9,λ_=>?_⟩;refine⟨b,off,_,el,fz,rfl,setRow_heap m.w b c _ el _ h4,by rw[bw _ _ _ hfit];exact h5,by rw[bw _ _ _ hfit];exact h6,λi hi'=>?_⟩;simp only[Ka]at hi';by_cases hij:j=i
         ·subst hij;rw[KV];refine Rd.mono (λb hb=>⟨hb,(he.fro b hb).2⟩) (w:=m1.w) (F:=m1.F) ?_;have:seg (aM c (off+j*σ.size+o') cs) (off+j*σ.size) σ.size=(seg c (off+j*σ.size) σ.size).take o'++cs++(seg c (off+j*σ.size) σ.size).drop (o'+cs.length):=by
           apply Kk;intro k;have hsl:=dw c (off+j*σ.size) σ.size (by omega);by_cases hk:k<σ.size
           ·rw[seg_getElem? _ _ _ _ hk,dq _ _ _ hfit];simp only[LU,JE,Kf,hsl,JC,J2];have hmin:min o' σ.size=o':=by omega
            rw[hmin];by_cases k1:k<o'
            ·rw[if_neg (by omega),if_pos (by omega),if_pos k1,if_pos k1,seg_getElem? _ _ _ _ hk]
            by_cases k2:k<o'+cs.length
            ·rw[if_pos (by omega),if_pos k2,if_neg k1];congr 1;omega
            rw[if_neg (by omega),if_neg k2,seg_getElem? _ _ _ _ (by omega)];congr 1;omega
           have e1:(seg (aM c (off+j*σ.size+o') cs) (off+j*σ.size) σ.size)[k]?=none:=by apply KG;rw[dw _ _ _ (by rw[bw _ _ _ hfit];omega)];omega
           have e2:((seg c (off+j*σ.size) σ.size).take o'++cs++(seg c (off+j*σ.size) σ.size).drop (o'+cs.length))[k]?=none:=by apply KG;simp[hsl];omega
           rw[e1,e2]
          rw[this];exact r3
         rw[Kx hij];refine Rd.mono (λb hb=>⟨hb,(he.fro b hb).2⟩) (w:=m1.w) (F:=m1.F) ?_;rw[ca _ _ _ hfit]
         ·exact h8 i hi'
         rcases Ly hij with hlt|hgt
         ·right;have:(j+1)*σ.size<=i*σ.size:=B1 _ hlt;rw[B8]at this;omega
         left;have:(i+1)*σ.size<=j*σ.size:=B1 _ hgt;rw[B8]at this;omega)
       refine Does.skip (w':=m.w.setRow b (aM c (off+j*σ.size+o') cs)) (by simp[execOp,ho,hv,Instr.storeAt,Instr.sureAddr,hst]) ⟨_,.av .undef,rfl,?_,g1,a5.trans g2,rfl⟩;rw[<- h,a3,hG];rfl
     simp at h
    simp at h
   ·rename_i ver σ l hole hl;rw[hl]at hob;simp only[aw]at hob;subst hob;obtain⟨hj,rfl,b,off,n,cap,us,hι,h0,hv⟩:=hv;by_cases hτ:τ=.slice σ
    ·subst hτ;simp only[decide_true,Mf,MB,UA]at h;split at h
     ·rename_i x hx';obtain⟨hh,h⟩:=za h;simp only[aw]at h;rw[<- hG]at hx';obtain⟨k1,k2⟩:=oy hi hx' hy;obtain⟨u,hs,h1,h2⟩:=cr hi (hG▸hl);obtain⟨b',off',cap',c,el,fz,v,q1,q2,q3,q4,q5,q6,q7,q8⟩:=nB h2 hj;rw[h1]at hι;simp only[Value.tuple.injEq]at hι;subst hι;simp only[Jy,Ju,aw]at h0;rw[h0]at q1;simp only[Value.slice.injEq,aw,Addr.mk.injEq,and_true]at q1;obtain⟨⟨rfl,rfl⟩,rfl,rfl⟩:=q1;have hone:=bA k1;have hcells:=lE hone;have hst:=ew hck q3 q4 (off:=off+j) (by simp only[Ty.size];omega) (v:=a.eval y) (by rw[hcells];rfl) (by rw[hcells];simpa using hone);rw[hcells]at hst;have hids:∀ i∈x.2,∃ o,m.G.get i=some o:=by
       intro i hi';rcases k2 with⟨e,_⟩|⟨id2,e,hg2,_⟩
       ·rw[e]at hi';simp at hi'
       rw[e]at hi';simp at hi';subst hi';exact⟨_,hg2⟩
      have hnot:id∉x.2:=by
       intro hi';rcases k2 with⟨e,_⟩|⟨id2,e,hg2,_⟩
       ·rw[e]at hi';simp at hi'
       rw[e]at hi';simp at hi';subst hi'
       rw[hG,hl]at hg2;cases hg2
      obtain⟨d1,d2,d3,d4⟩:=jT x.2 hi hids;have hf:cM w0 M ⟨m.w,m.F,m.ι,aq x.2 m.G⟩ (a.eval y):=by
       intro b' hb';rcases k2 with⟨_,e⟩|⟨id2,e,hg2,e2⟩
       ·exact absurd hb' (e b')
       exact d4 id2 (by rw[e];simp) _ hg2 rfl b' (by rw[<- e2];exact hb')
      obtain⟨m',p1,p2,p3,p4,p5⟩:=Ba (m:=⟨m.w,m.F,m.ι,aq x.2 m.G⟩) d1 (id:=id) (ver:=ver) (j:=j) (by show(aq x.2 m.G).get id=_;rw[bf _ _ _ hnot,hG];exact hl) hj hh k1 hf h1 (by simp[h0]) q2 q3 (cd m.w b (aM c (off+j) [a.eval y])) (setRow_heap m.w b c _ el _ q3);refine Does.skip (w':=m.w.setRow b (aM c (off+j) [a.eval y])) (by simp[execOp,ho,hv,Instr.storeAt,Instr.sureAddr,hst]) ⟨m',.av .undef,p1,?_,p4,d2.trans p5,rfl⟩;rw[<- h,p3,hG];rfl
     simp at h
    simp[hτ]at h
   simp at h
  ·rename_i id ver j k;obtain⟨_,ob,hob,hv⟩:=(ao (m:=m) (a:=.saptr id ver j k) (by intros;simp)).1 hx;rw[hG]at hob;split at h
   ·rename_i ver' σ l hl;rw[hl]at hob;simp only[aw]at hob;subst hob;cases hc:(A7 ver ver'&&decide (τ=σ) && !((bJ (ah C s.env y)).contains id||τ.isPC))with
    |false=>rw[hc]at h;simp at h
    |true=>
     rw[hc]at h;simp only[UA]at h;simp only[np,Jw,decide_eq_true_eq,Lo]at hc;obtain⟨⟨hver,rfl⟩,hc,hcl⟩:=hc;have:=A3 hver;subst this;have hnot:id∉bJ (ah C s.env y):=by simpa using hc
     obtain⟨hj,_,us,b,off,n,cap,hι,h0,hk,hv⟩:=hv.2 rfl;split at h
     ·rename_i z hz;simp only[jZ hj,aw]at h;rw[<- hG]at hz;obtain⟨cs,hcs,hrd⟩:=db hi hz hy;rw[mT hcl hz]at hrd;obtain⟨m1,a1,a2,a3,a4,a5,a6⟩:=cE (bJ (ah C s.env y)) hi;have hrd1:Rd m1.w m1.F τ cs z:=hrd.mono (λb hb=>⟨a6 b hb,by rw[a1]⟩);have hg1:m1.G.get id=some (.deep ver τ l none):=by rw[a3,bf _ _ _ hnot,hG];exact hl
      obtain⟨u,hs,h1,h2⟩:=cr a4 hg1;rw[a2]at h1;rw[h1]at hι;simp only[Value.tuple.injEq]at hι;subst hι;simp only[Jy,JG]at h0;have q9:=h2.inner j hj _ h0 (by simp);have hkl:k<l[j].length:=by obtain⟨ad,cap1,e1,_⟩:=q9;simp only[Value.slice.injEq]at e1;omega
      obtain⟨b',off',cap',c,el,fz,q1,q2,q3,q4,q5,q6,q7⟩:=E3 q9 hkl hrd1;simp only[Value.slice.injEq,aw,Addr.mk.injEq,and_true]at q1;obtain⟨⟨rfl,rfl⟩,rfl,rfl⟩:=q1;have hvc:(a.eval y).cells=cs.toArray:=by rw[hcs];exact lJ hrd1
      have hlen:=hrd1.len;rw[a1]at q3;have hst:=ew hck q3 q4 (off:=off+k*τ.size) (by omega) (v:=a.eval y) (by rw[hvc];simpa using hlen) (by rw[hvc];simpa using hrd1.one);rw[hvc]at hst;simp only at hst;have hbi:HB (.slice (some ⟨b,off,none⟩) l[j].length cap) b:=⟨q2,rfl⟩;have hbd:HB (m1.ι id) b:=by rw[a2,h1,bY h2.one];exact⟨_,Jq _ (Jv h0),hbi⟩
      obtain⟨g1,g2⟩:=di a4 (id:=id) (o:=.deep ver τ l none) (o':=.deep ver τ (l.set j (l[j].set k z)) none) (b:=b) hg1 rfl hbd ⟨rfl,rfl,by simp,rfl⟩
       (w1:=m.w.setRow b (aM c (off+k*τ.size) cs)) (by rw[a1];exact cd _ _ _) (λhe=>by
        refine⟨u,hs,by show m1.ι id=_;rw[a2];exact h1,?_⟩;refine uU h2 hj h0 hbi he.fro (λk' hk'=>?_) (λ_=>q7 _ _ he.fro (setRow_heap m.w b c _ el _ q3)) (by simp);rw[a1];exact(cd m.w b (aM c (off+k*τ.size) cs)).block k' hk')
      refine Does.skip (w':=m.w.setRow b (aM c (off+k*τ.size) cs)) (by simp[execOp,ho,hv,Instr.storeAt,Instr.sureAddr,hst]) ⟨_,.av .undef,rfl,?_,g1,a5.trans g2,rfl⟩;rw[<- h,a3,hG];rfl
     simp at h
   simp at h
  ·rename_i id off cnt idx wd;obtain⟨_,ob,hob,hv⟩:=(ao (m:=m) (a:=.iptr id off cnt idx wd) (by intros;simp)).1 hx;rw[hG]at hob;split at h
   ·rename_i _ _ _ _ l k k' z hl hz;rw[hl]at hob;simp only[aw]at hob;subst hob;obtain⟨hw,b,hι,hv⟩:=hv;obtain⟨b',c,el,h1,h2,h3,h4⟩:=hi.objs id _ (hG▸hl);rw[hι]at h1;simp only[Value.pointer.injEq,aw,Addr.mk.injEq,and_true]at h1;subst h1;split at h
    ·rename_i xs hxs;cases hb:(A7 wd 1&&A7 xs.length cnt&&decide (k'=k))with
     |false=>rw[hb]at h;simp at h
     |true=>
      rw[hb]at h;simp only[UA]at h;simp only[np,decide_eq_true_eq]at hb;obtain⟨⟨hb1,hb2⟩,rfl⟩:=hb;have b1:=A3 hb1;have b2:=A3 hb2;rw[hz]at hy;obtain⟨hyv,hy1,hy2⟩:=cF hy;obtain⟨r1,r2⟩:=ki hxs ((h4.drop off).take cnt);have hsz:off+cnt<=c.size:=by have:=r1;simp at this;omega
      have hcl:(a.eval y).cells=#[.int k' z]:=by rw[hyv];rfl
      have hst:=ew (te:=.unit) hck h2 (.inl (B2 _)) (off:=off+idx) (by simp only[Ty.size];omega) (v:=a.eval y) (by rw[hcl];rfl) (by rw[hcl];simp[Value.oneCell']);rw[hcl]at hst;have hsp:(aM c (off+idx) [.int k' z]).toList=c.toList.take off++(((c.toList.drop off).take cnt).set idx (.int k' z)++c.toList.drop (off+cnt)):=by
       apply Kk;intro p;have hg:=dq c (off+idx) [.int k' z] (by simp;omega) p;rw[JN,hg];simp only[B6,JB,JP,LU,Kf,Ka,JU,JD,JC,J2,List.getElem?_set];by_cases p1:p<off
       ·rw[if_neg (by omega),if_pos (by omega),if_pos p1];simp
       have e1:min off c.size=off:=by omega
       have e2:min cnt (c.size-off)=cnt:=by omega
       rw[e1,e2,if_neg p1];by_cases p2:p-off<cnt
       ·rw[if_pos p2];by_cases p3:idx=p-off
        ·have p4:p=off+idx:=by omega
         subst p4;rw[if_pos (by omega),if_pos (by omega),if_pos (by omega)];simp
        rw[if_neg (by omega),if_neg p3,if_pos p2];have:off+(p-off)=p:=by omega
        rw[this];simp
       rw[if_neg p2,if_neg (by omega)];have:off+cnt+(p-off-cnt)=p:=by omega
       rw[this];simp
      obtain⟨g1,g2⟩:=di hi (id:=id) (o:=.box l) (o':=.box (l.take off++(setCells k' idx z 0 xs++l.drop (off+cnt)))) (b:=b) (hG▸hl) rfl (by rw[hι];rfl) trivial
       (w1:=m.w.setRow b (aM c (off+idx) [.int k' z])) (cd _ _ _) (λhe=>by
        refine⟨b,_,el,hι,setRow_heap m.w b c _ el _ h2,?_,?_⟩
        ·intro u hu;rw[hsp]at hu;simp only[A4]at hu;rcases hu with hu|hu|hu
         ·exact h3 u (JV hu)
         ·rcases La hu with hu|hu
          ·exact h3 u (J3 (JV hu))
          rw[hu];rfl
         exact h3 u (J3 hu)
        have e1:=cI he h4;rw[hsp];refine(e1.take off).append (Rel2.append ?_ (e1.drop _));have:=mG (m':=_) (k:=k') (y:=z) (v:=.int k' z) (idx:=idx) (show ai _ _ (.val (.int k') z)from⟨⟨rfl,hy1,hy2⟩,rfl⟩) (us:=(c.toList.drop off).take cnt) (xs:=xs) (j:=0) r1 (λi hi'=>by
         obtain⟨u,q1,q2⟩:=r2 i hi';exact⟨u,q1,bq he q2⟩)
        simpa using this)
      refine Does.skip (w':=m.w.setRow b (aM c (off+idx) [.int k' z])) (by simp[execOp,ho,hv,Instr.storeAt,Instr.sureAddr,hst]) ⟨_,.av .undef,rfl,?_,g1,g2,rfl⟩;simp only[aw]at h;rw[<- h,hG];rfl
    simp at h
   simp at h
  simp at h
 simp at h
end
end Go.Vm

/-
 The machine's operations against the model's: places, lengths, parts.
-/
namespace Go.Vm
section
variable {P:Program}{C:Ctx}{w0:World}{M:Own}{o:Oper}{a:Act}{m:Mem}{s s':St}
theorem lX{R:Type}{v:SV}{K:Int->Option R}{r:R}(h:kn v K=some r):∃ n:Int,v=.av (.val (.int .i64) n)/\K n=some r:=by
 unfold kn at h;split at h
 ·exact⟨_,rfl,h⟩
 simp at h
theorem jQ {τ σ : Ty}{t:TypeId}{f q:Nat}(hck:chk P τ none t=true)(hf : τ.field f=some (q,σ))(hp:1<=σ.size)(b off:Nat)(w:World) :
  (Instr.fieldAt t (.pointer (some ⟨b,off,none⟩)) f).run P w=.ok (.pointer (some ⟨b,off+q,none⟩)) w:=by
 obtain⟨fs,fd,h1,h2,h3,h4⟩:=qk hck hf;have hs:=bt h4 w;have h0:σ.size≠0:=by omega
 simp[Instr.fieldAt,run_underlying h1,h2,Instr.sureAddr,fieldPlace,hs,h0,h3,bK]
theorem ta {t:TypeId}{x:Operand}{f:Nat}(hT:cb P C.tab=true)(hi:Inv C w0 M m)(hG:m.G=s.G)(hS:∀ x,RelSV m (a.eval x) (ah C s.env x))(ho:o.op=.fieldAddr t x f)
  (h:aZ C o s some=some s'):Does P o a m.w (Res C w0 M m s s' o.dst):=by
 simp only[au,aK,ho]at h;have hx:=hS x;split at h
 ·rename_i id off hp;rw[hp]at hx;obtain⟨_,ob,hob,hv⟩:=(ao (m:=m) (a:=.ptr id off) (by intros;simp)).1 hx;rw[hG]at hob;split at h
  ·rename_i l τ hl ht;rw[hl]at hob;simp only[aw]at hob;subst hob;obtain⟨b,hι,hv⟩:=hv;split at h
   ·rename_i o' t' hf;cases hb:JK 1 t'.size with
    |false=>rw[hb]at h;simp at h
    |true=>rw[hb]at h;have hpos:=JF hb;exact aB hi hG (v:=.pointer (some ⟨b,off+o',none⟩)) (sv:=.av (.ptr id (off+o'))) (by simp[execOp,ho,hv,jQ (aj hT ht (jm hf)) hf hpos]) (show ai m _ (.ptr id (off+o'))from⟨rfl,.box l,hG▸hl,b,hι,rfl⟩) h
   simp at h
  simp at h
 ·rename_i id j p hp;rw[hp]at hx;obtain⟨_,ob,hob,hv⟩:=(ao (m:=m) (a:=.aptr id j p) (by intros;simp)).1 hx;rw[hG]at hob;split at h
  ·rename_i σ l τ hl ht;rw[hl]at hob;simp only[aw]at hob;subst hob;obtain⟨hj,b,off,n,cap,q,hι,hq,hv⟩:=hv;rw[hq]at h;obtain⟨q1,q2⟩:=q;simp only at h hv;cases hd:decide (q2=τ)with
   |false=>rw[hd]at h;simp at h
   |true=>
    rw[hd]at h;have:q2=τ:=by simpa using hd
    subst this;simp only[UA]at h;split at h
    ·rename_i o' t' hf;cases hb:JK 1 t'.size with
     |false=>rw[hb]at h;simp at h
     |true=>
      rw[hb]at h;have hpos:=JF hb;exact aB hi hG (v:=.pointer (some ⟨b,off+j*σ.size+q1+o',none⟩)) (sv:=.av (.aptr id j (p++[f]))) (by simp[execOp,ho,hv,jQ (aj hT ht (jm hf)) hf hpos])
       (show ai m _ (.aptr id j (p++[f]))from⟨rfl,.arr σ l,hG▸hl,hj,b,off,n,cap,_,hι,mS hq hf,by simp[JX]⟩) h
    simp at h
  simp at h
 ·rename_i τ y hp;rw[hp]at hx;split at h
  ·rename_i τ' ht;cases hd:decide (τ=τ')with
   |false=>rw[hd]at h;simp at h
   |true=>
    rw[hd]at h;have:τ=τ':=by simpa using hd
    subst this;simp only[UA]at h;split at h
    ·rename_i t' z hz;cases hb:JK 1 t'.size with
     |false=>rw[hb]at h;simp at h
     |true=>
      rw[hb]at h;have hpos:=JF hb;obtain⟨b,off,c,el,fz,h1,h2,h3,h4,h5⟩:=pc hx;obtain⟨o',r1,r2,r3⟩:=iJ hz h5;have hseg:seg c (off+o') t'.size=((seg c off τ.size).drop o').take t'.size:=by unfold seg;rw[er _ _ _ _ _ r2]
      exact aB hi hG (v:=.pointer (some ⟨b,off+o',none⟩)) (sv:=.av (.val (.ptr t') z)) (by simp[execOp,ho,h1,jQ (aj hT ht (jm r1)) r1 hpos])
       (show ∃ cs,_/\_ from⟨[.pointer (some ⟨b,off+o',none⟩)],rfl,b,off+o',c,el,fz,rfl,h2,h3,by omega,by rw[hseg];exact r3⟩) h
    simp at h
  simp at h
 simp at h
theorem ul {x:Operand}(hi:Inv C w0 M m)(hG:m.G=s.G)(hS:∀ x,RelSV m (a.eval x) (ah C s.env x))(ho:o.op=.nilCheck x)
  (h:aZ C o s some=some s'):Does P o a m.w (Res C w0 M m s s' o.dst):=by
 simp only[au,aK,ho]at h;have hx:=hS x;split at h
 ·rename_i i j hp;rw[hp]at hx;obtain⟨_,ob,hob,hv⟩:=(ao (m:=m) (a:=.ptr i j) (by intros;simp)).1 hx;rw[hG]at hob;split at h
  ·rename_i l hl;rw[hl]at hob;simp only[aw]at hob;subst hob;obtain⟨b,hι,hv⟩:=hv;exact aB hi hG (v:=a.eval x) (sv:=.av (.ptr i j)) (by simp[execOp,ho,hv]) hx h
  simp at h
 ·rename_i i j p hp;rw[hp]at hx;obtain⟨_,ob,hob,hv⟩:=(ao (m:=m) (a:=.aptr i j p) (by intros;simp)).1 hx;rw[hG]at hob;split at h
  ·rename_i σ l hl;rw[hl]at hob;simp only[aw]at hob;subst hob;obtain⟨_,b,off,n,cap,q,hι,_,hv⟩:=hv;exact aB hi hG (v:=a.eval x) (sv:=.av (.aptr i j p)) (by simp[execOp,ho,hv]) hx h
  ·rename_i ver σ l hole hl;rw[hl]at hob;simp only[aw]at hob;subst hob;obtain⟨_,_,b,off,n,cap,us,_,_,hv⟩:=hv;exact aB hi hG (v:=a.eval x) (sv:=.av (.aptr i j p)) (by simp[execOp,ho,hv]) hx h
  simp at h
 ·rename_i t y hp;rw[hp]at hx;obtain⟨b,off,c,el,fz,h1,_⟩:=pc hx;exact aB hi hG (v:=a.eval x) (sv:=.av (.val (.ptr t) y)) (by simp[execOp,ho,h1]) hx h
 ·rename_i g t y hp;rw[hp]at hx;have hx':=hx;obtain⟨cs,h1,vs,rfl,_⟩:=hx';simp only[toV,Ty.isAgg,UB,Ll]at h1;exact aB hi hG (v:=a.eval x) (sv:=.av (.val (.clo g t) y)) (by simp[execOp,ho,h1]) hx h
 ·rename_i f c hp;rw[hp]at hx;obtain⟨vs,h1,_⟩:=(ao (m:=m) (a:=.clo f c) (by intros;simp)).1 hx;exact aB hi hG (v:=a.eval x) (sv:=.av (.clo f c)) (by simp[execOp,ho,h1]) hx h
 ·rename_i i off n idx wd hp;rw[hp]at hx;obtain⟨_,ob,hob,hv⟩:=(ao (m:=m) (a:=.iptr i off n idx wd) (by intros;simp)).1 hx;rw[hG]at hob;split at h
  ·rename_i l hl;rw[hl]at hob;simp only[aw]at hob;subst hob;obtain⟨_,b,hι,hv⟩:=hv;exact aB hi hG (v:=a.eval x) (sv:=.av (.iptr i off n idx wd)) (by simp[execOp,ho,hv]) hx h
  simp at h
 simp at h
theorem BV {t:TypeId}{x:Operand}{f:Nat}(hT:cb P C.tab=true)(hi:Inv C w0 M m)(hG:m.G=s.G)(hS:∀ x,RelSV m (a.eval x) (ah C s.env x))(ho:o.op=.field t x f)
  (h:aZ C o s some=some s'):Does P o a m.w (Res C w0 M m s s' o.dst):=by
 simp only[au,aK,ho]at h;have hx:=hS x;split at h
 ·rename_i l hp;rw[hp]at hx;obtain⟨us,hu,h1,hr⟩:=hx;split at h
  ·rename_i τ ht;split at h
   ·rename_i o' t' hf;obtain⟨fs,fd,q1,q2,q3,q4⟩:=qk (aj hT ht (jm hf)) hf;split at h
    ·rename_i c hc;obtain⟨rfl,hle⟩:=gF hc;have hlen:=hr.length;simp only[JU]at hle;have hpart:(part fd.type us.toArray fd.offset).run P m.w=.ok (toV t' ((us.drop o').take t'.size)) m.w:=by
      cases ha:t'.isAgg with
      |true=>simp[part,cV q4,ha,bt q4,toV,q3,K3]
      |false=>
       have h1':=ej ha;have hlt:o'<us.length:=by omega
       simp only[part,Sem.run_bind,cV q4,ha,Result.andThen_ok,JS,if_false,q3,Jy,A1 hlt,toV,UB,h1',Sem.run_pure];rw[J5 hlt];rfl
     refine aB hi hG (v:=toV t' ((us.drop o').take t'.size)) (sv:=d8 t' ((l.drop o').take t'.size)) ?_ (iF (λu hu=>h1 u (J3 (JV hu))) ((hr.drop o').take _)) h;simp[execOp,ho,hu,Instr.field,run_underlying q1,q2,asAgg,hpart]
    simp at h
   simp at h
  simp at h
 ·rename_i τ y hp;rw[hp]at hx;split at h
  ·rename_i τ' ht;cases hd:decide (τ=τ')with
   |false=>rw[hd]at h;simp at h
   |true=>
    rw[hd]at h;have:τ=τ':=by simpa using hd
    subst this;simp only[UA]at h;split at h
    ·rename_i t' z hz;obtain⟨cs,hu,hrd⟩:=hx;obtain⟨o',r1,r2,r3⟩:=iJ hz hrd;obtain⟨fs,fd,q1,q2,q3,q4⟩:=qk (aj hT ht (jm r1)) r1;have hagg:τ.isAgg=true:=by cases τ<;>simp_all[Ty.field,Ty.isAgg]
     have hlen:=hrd.len;have hpart:(part fd.type cs.toArray fd.offset).run P m.w=.ok (toV t' ((cs.drop o').take t'.size)) m.w:=by
      cases ha:t'.isAgg with
      |true=>simp[part,cV q4,ha,bt q4,toV,q3,K3]
      |false=>
       have h1':=ej ha;have hlt:o'<cs.length:=by omega
       simp only[part,Sem.run_bind,cV q4,ha,Result.andThen_ok,JS,if_false,q3,Jy,A1 hlt,toV,UB,h1',Sem.run_pure];rw[J5 hlt];rfl
     refine aB hi hG (v:=toV t' ((cs.drop o').take t'.size)) (sv:=.av (.val t' z)) ?_ (sT r3) h;have hu':a.eval x=.agg cs.toArray:=by rw[hu];simp[toV,hagg]
     simp[execOp,ho,hu',Instr.field,run_underlying q1,q2,asAgg,hpart]
    simp at h
  simp at h
 simp at h
theorem pz{i:Int}{n:Nat}{j:Nat}(h:ay n i=some j):0<=i/\i<n/\j=i.toNat/\j<n:=by
 unfold ay at h;split at h
 ·rename_i hc;simp at h;omega
 simp at h
theorem lq{α:Type}{l:List α}{i:Int}{y:α}(h:aL l i=some y):0<=i/\i<l.length/\∃ hj:i.toNat<l.length,l[i.toNat]=y:=by
 unfold aL at h;split at h
 ·rename_i hc;obtain⟨hj,hy⟩:=A2.1 h;exact⟨hc,by omega,hj,hy⟩
 simp at h
theorem co {e:Ty}{t et:TypeId}(hu:P.underlying t=some (.slice et))(hck:chk P e none et=true){k:IntKind}{i:Int}{n cap b off:Nat}(h0:0<=i)(h1:i < n)(w:World) :
  (Instr.indexAt t (.slice (some ⟨b,off,none⟩) n cap) (.int k i)).run P w=.ok (.pointer (some ⟨b,off+i.toNat*e.size,none⟩)) w:=by
 have hc:0<=i/\i<(n:Int):=⟨h0,h1⟩;simp[Instr.indexAt,asIntOf,run_underlying hu,hc,bt hck,bK]
theorem eD {e:Ty}{t et:TypeId}{n:Nat}(hu:P.underlying t=some (.array n et))(hck:chk P e none et=true){k:IntKind}{i:Int}{b off:Nat}(h0:0<=i)(h1:i < n)(w:World) :
  (Instr.indexAt t (.pointer (some ⟨b,off,none⟩)) (.int k i)).run P w=.ok (.pointer (some ⟨b,off+i.toNat*e.size,none⟩)) w:=by
 have hc:0<=i/\i<(n:Int):=⟨h0,h1⟩;simp[Instr.indexAt,asIntOf,run_underlying hu,hc,bt hck,bK,Instr.sureAddr]
theorem rV {t:TypeId}{x ix:Operand}(hT:cb P C.tab=true)(hi:Inv C w0 M m)(hG:m.G=s.G)(hS:∀ x,RelSV m (a.eval x) (ah C s.env x))(ho:o.op=.indexAddr t x ix)
  (h:aZ C o s some=some s'):Does P o a m.w (Res C w0 M m s s' o.dst):=by
 simp only[au,aK,ho]at h;have hx:=hS x;obtain⟨k,i,hix,h⟩:=fW h;have hiv:=hS ix;rw[hix]at hiv;obtain⟨hiv,_,_⟩:=cF hiv;cases hty:du C t s.G (ah C s.env x)with
 |false=>rw[hty]at h;simp at h
 |true=>
  rw[hty]at h;simp only[UA]at h;have fin {v:Value} {at':Atom} (hl:(Instr.indexAt t (a.eval x) (.int k i)).run P m.w=.ok v m.w) (hr:RelSV m v (.av at')) (hs:some (ag o.dst (.av at') s)=some s') :
    Does P o a m.w (Res C w0 M m s s' o.dst):=
   aB hi hG (v:=v) (by simp[execOp,ho,hiv,hl]) hr hs
  unfold indexAt at h;split at h
  ·rename_i e l hp;rw[hp]at hx hty;unfold du at hty;split at hty<;>try (simp_all;done)
   rename_i e1 e2 l2 ht hq;simp only[SV.av.injEq,Atom.val.injEq,Ty.slice.injEq]at hq;obtain⟨rfl,hl2⟩:=hq;have:e1=e:=by simpa using hty
   subst this;obtain⟨et,hu,hck⟩:=aT (aj hT ht);obtain⟨y,hy,h⟩:=A6.1 h;obtain⟨h0,h1,hj,rfl⟩:=lq hy;obtain⟨ad,cap,hv,h2,h3,h4⟩:=gy hx;obtain⟨b,off,c,el,fz,rfl,q2,q3,q4,q5⟩:=h4 (by intro e;rw[e]at hj;simp at hj);refine fin (at':=.val (.ptr e1) l[i.toNat]) (by rw[hv];exact co hu hck h0 h1 _) ⟨[_],rfl,b,off+i.toNat*e1.size,c,el,fz,rfl,q2,q3,?_,q5 _ hj⟩ h;have:(i.toNat+1)*e1.size<=l.length*e1.size:=B1 _ hj;rw[B8]at this;omega
  ·rename_i id hp;rw[hp]at hx hty;obtain⟨_,ob,hob,hv⟩:=(ao (m:=m) (a:=.own id) (by intros;simp)).1 hx;rw[hG]at hob;split at h
   ·rename_i e l hl;rw[hl]at hob;simp only[aw]at hob;subst hob;unfold du at hty;split at hty<;>try (simp_all;done)
    rename_i e1 id2 ht hq;simp only[SV.av.injEq,Atom.own.injEq]at hq;subst hq;rw[hl]at hty;have:e1=e:=by simpa using hty
    subst this;obtain⟨et,hu,hck⟩:=aT (aj hT ht);obtain⟨j,hj,h⟩:=A6.1 h;obtain⟨h0,h1,rfl,hj⟩:=pz hj;obtain⟨b,off,cap,c,el,fz,r1,r2,r3,r4,r5,r6,r7,r8,r9⟩:=mp hi (hG▸hl) hj;exact fin (at':=.aptr id i.toNat []) (by rw[hv rfl,r1];exact co hu hck h0 h1 _)
     (show ai m _ (.aptr id i.toNat [])from⟨rfl,.arr e1 l,hG▸hl,hj,b,off,l.length,cap,_,r1,rfl,by simp⟩) h
   simp at h
  ·rename_i id off' len hp;rw[hp]at hx hty;obtain⟨_,ob,hob,hv⟩:=(ao (m:=m) (a:=.view id off' len) (by intros;simp)).1 hx;rw[hG]at hob;split at h
   ·rename_i e l hl;rw[hl]at hob;simp only[aw]at hob;subst hob;unfold du at hty;split at hty<;>try (simp_all;done)
    rename_i e1 id2 o2 l2 ht hq;simp only[SV.av.injEq,Atom.view.injEq]at hq;obtain⟨rfl,rfl,rfl⟩:=hq;rw[hl]at hty;have:e1=e:=by simpa using hty
    subst this;obtain⟨et,hu,hck⟩:=aT (aj hT ht);obtain⟨j,hj,h⟩:=A6.1 h;obtain⟨h0,h1,rfl,hj⟩:=pz hj;simp only at hv;obtain⟨b,off,cap,c,el,fz,r1,r2,r3,r4,r5,r6,r7,r8,r9⟩:=mp hi (hG▸hl) (j:=off'+i.toNat) (by omega);refine fin (at':=.aptr id (off'+i.toNat) []) (v:=.pointer (some ⟨b,off+off'*e1.size+i.toNat*e1.size,none⟩)) ?_
     (show ai m _ (.aptr id (off'+i.toNat) [])from⟨rfl,.arr e1 l,hG▸hl,by omega,b,off,l.length,cap,_,r1,rfl,by simp[B8,JX]⟩) h
    obtain⟨a',n',cap',ad',v1,v2,v3⟩:=hv.2;rw[r1]at v1;simp only[Value.slice.injEq]at v1;obtain⟨rfl,rfl,rfl⟩:=v1;rw[v2,v3 (by omega)];simp only[KB,bK];exact co hu hck h0 h1 _
   simp at h
  ·rename_i id off' len hp;rw[hp]at hx hty;obtain⟨_,ob,hob,hv⟩:=(ao (m:=m) (a:=.cut id off' len) (by intros;simp)).1 hx;rw[hG]at hob;split at h
   ·rename_i e l hl;rw[hl]at hob;simp only[aw]at hob;subst hob;unfold du at hty;split at hty<;>try (simp_all;done)
    rename_i e1 id2 o2 l2 ht hq;simp only[SV.av.injEq,Atom.cut.injEq]at hq;obtain⟨rfl,rfl,rfl⟩:=hq;rw[hl]at hty;have:e1=e:=by simpa using hty
    subst this;obtain⟨et,hu,hck⟩:=aT (aj hT ht);obtain⟨j,hj,h⟩:=A6.1 h;obtain⟨h0,h1,rfl,hj⟩:=pz hj;simp only at hv;obtain⟨hv1,hv2,b,off,n',cap',v1,v2⟩:=hv;refine fin (at':=.aptr id (off'+i.toNat) []) (v:=.pointer (some ⟨b,off+off'*e1.size+i.toNat*e1.size,none⟩)) ?_
     (show ai m _ (.aptr id (off'+i.toNat) [])from⟨rfl,.arr e1 l,hG▸hl,by omega,b,off,n',cap',_,v1,rfl,by simp[B8,JX]⟩) h
    rw[v2];exact co hu hck h0 h1 _
   simp at h
  ·rename_i id hp;rw[hp]at hx hty;obtain⟨_,ob,hob,hv⟩:=(ao (m:=m) (a:=.ownd id) (by intros;simp)).1 hx;rw[hG]at hob;split at h
   ·rename_i ver e l hole hl;rw[hl]at hob;simp only[aw]at hob;subst hob;unfold du at hty;split at hty<;>try (simp_all;done)
    rename_i e1 id2 ht hq;simp only[SV.av.injEq,Atom.ownd.injEq]at hq;subst hq;rw[hl]at hty;have:e1=.slice e:=by simpa using hty
    subst this;obtain⟨et,hu,hck⟩:=aT (aj hT ht);obtain⟨j,hj,h⟩:=A6.1 h;obtain⟨h0,h1,rfl,hj⟩:=pz hj;obtain⟨u,hs,d1,d2⟩:=cr hi (hG▸hl);obtain⟨us,hv1,hv2⟩:=hv;rw[d1]at hv1;simp only[Value.tuple.injEq]at hv1;subst hv1;simp only[Jy,Ju,aw]at hv2;obtain⟨b,off,cap,c,el,fz,v,r1,r2,r3,r4,r5,r6,_⟩:=nB d2 hj;refine fin (at':=.aptr id i.toNat []) (v:=.pointer (some ⟨b,off+i.toNat*(Ty.slice e).size,none⟩)) (by rw[<- hv2,r1];exact co hu hck h0 h1 _)
     (show ai m _ (.aptr id i.toNat [])from⟨rfl,.deep ver e l hole,hG▸hl,hj,rfl,b,off,l.length,cap,_,d1,by simp[r1],by simp[Ty.size]⟩) h
   simp at h
  ·rename_i id ver j hp;rw[hp]at hx hty;obtain⟨_,ob,hob,hv⟩:=(ao (m:=m) (a:=.sub id ver j) (by intros;simp)).1 hx;rw[hG]at hob;split at h
   ·rename_i ver' e l hl;rw[hl]at hob;simp only[aw]at hob;subst hob;unfold du at hty;split at hty<;>try (simp_all;done)
    rename_i e1 id2 ver2 j2 ht hq;simp only[SV.av.injEq,Atom.sub.injEq]at hq;obtain⟨rfl,rfl,rfl⟩:=hq;rw[hl]at hty;have:e1=e:=by simpa using hty
    subst this;obtain⟨et,hu,hck⟩:=aT (aj hT ht);cases hb:A7 ver ver' with
    |false=>rw[hb]at h;simp at h
    |true=>
     rw[hb]at h;have:=A3 hb;subst this;obtain⟨hj,_,us,hv1,hv2⟩:=hv.2 rfl;simp only[UA,jZ hj]at h;obtain⟨k',hk',h⟩:=A6.1 h;obtain⟨h0,h1,rfl,hk'⟩:=pz hk';obtain⟨u,hs,d1,d2⟩:=cr hi (hG▸hl);rw[d1]at hv1;simp only[Value.tuple.injEq]at hv1;subst hv1;have hv3:=hv2;simp only[Jy,JG]at hv2;obtain⟨b,off,cap,c,el,fz,r1,r2,r3,r4,r5,r6⟩:=w7 (d2.inner j hj _ hv2 (by simp)) hk';rw[r1]at hv3;exact fin (at':=.saptr id ver j i.toNat) (v:=.pointer (some ⟨b,off+i.toNat*e1.size,none⟩)) (by rw[r1];exact co hu hck h0 h1 _)
      (show ai m _ (.saptr id ver j i.toNat)from⟨rfl,.deep ver e1 l none,hG▸hl,B2 _,λ_=>⟨hj,rfl,_,b,off,_,cap,d1,hv3,hk',rfl⟩⟩) h
   simp at h
  ·rename_i n e l hp;rw[hp]at hx hty;unfold du at hty;split at hty<;>try (simp_all;done)
   rename_i n1 e1 n2 e2 l2 ht hq;simp only[SV.av.injEq,Atom.val.injEq,Ty.ptr.injEq,Ty.arr.injEq]at hq;obtain⟨⟨rfl,rfl⟩,hl2⟩:=hq;simp only[np,decide_eq_true_eq]at hty;obtain⟨⟨rfl,hn⟩,_⟩:=hty;have:=A3 hn;subst this;obtain⟨et,hu,hck⟩:=kL (aj hT ht);obtain⟨y,hy,h⟩:=A6.1 h;obtain⟨h0,h1,hj,rfl⟩:=lq hy;obtain⟨b,off,c,el,fz,hv,q2,q3,q4,q5,q6,q7⟩:=pc hx;simp only[Ty.size]at q4 q6;have hle:(i.toNat+1)*e1.size<=n1*e1.size:=B1 _ (by omega);rw[B8]at hle;refine fin (at':=.val (.ptr e1) l[i.toNat]) (by rw[hv];exact eD hu hck h0 (by omega) _) ⟨[_],rfl,b,off+i.toNat*e1.size,c,el,fz,rfl,q2,q3,by omega,?_⟩ h;have hseg:seg c (off+i.toNat*e1.size) e1.size=((seg c off (n1*e1.size)).drop (i.toNat*e1.size)).take e1.size:=by unfold seg;rw[er _ _ _ _ _ (by omega)]
   rw[hseg];exact q7 _ hj
  ·rename_i id off hp;rw[hp]at hx hty;obtain⟨_,ob,hob,hv⟩:=(ao (m:=m) (a:=.ptr id off) (by intros;simp)).1 hx;split at h
   ·rename_i n e ht;obtain⟨et,hu,hck⟩:=kL (aj hT ht);split at h
    ·rename_i hc;cases ob with
     |box l=>
      obtain⟨b,hι,hv⟩:=hv;have hsz:i.toNat*e.size+e.size<=n*e.size:=by have:=B1 e.size (show i.toNat+1<=n by omega);rw[B8]at this;omega
      cases hb:JK 16 (n*e.size)with
      |true=>rw[hb,UA]at h;exact fin (at':=.iptr id off (n*e.size) (i.toNat*e.size) e.size) (by rw[hv];exact eD hu hck hc.1 hc.2 _) (show ai m _ (.iptr id off (n*e.size) (i.toNat*e.size) e.size)from⟨rfl,.box l,hob,hsz,b,hι,rfl⟩) h
      |false=>rw[hb,UB]at h;exact fin (at':=.ptr id (off+i.toNat*e.size)) (by rw[hv];exact eD hu hck hc.1 hc.2 _) (show ai m _ (.ptr id (off+i.toNat*e.size))from⟨rfl,.box l,hob,b,hι,rfl⟩) h
     |arr _ _=>exact hv.elim
     |deep _ _ _ _=>exact hv.elim
     |map _ _ _=>exact hv.elim
     |dead=>unfold du at hty;rw[ht]at hty;simp only at hty;rw[<- hG,hob]at hty;simp at hty
    simp at h
   simp at h
  ·rename_i id off cnt idx wd hp;rw[hp]at hx hty;obtain⟨_,ob,hob,hv⟩:=(ao (m:=m) (a:=.iptr id off cnt idx wd) (by intros;simp)).1 hx;split at h
   ·rename_i n e ht;obtain⟨et,hu,hck⟩:=kL (aj hT ht);unfold du at hty;rw[ht]at hty;simp only at hty;rw[<- hG,hob]at hty;split at h
    ·rename_i hc;cases ob with
     |box l=>
      obtain⟨hw,b,hι,hv⟩:=hv;simp only[np]at hty;have hwd:=A3 hty.2;have hsz:i.toNat*e.size+e.size<=n*e.size:=by have:=B1 e.size (show i.toNat+1<=n by omega);rw[B8]at this;omega
      exact fin (at':=.iptr id off cnt (idx+i.toNat*e.size) e.size) (by rw[hv];exact eD hu hck hc.1 hc.2 _)
       (show ai m _ (.iptr id off cnt (idx+i.toNat*e.size) e.size)from⟨rfl,.box l,hob,by omega,b,hι,by rw[JX]⟩) h
     |_=>simp at hty
    simp at h
   simp at h
  simp at h
theorem qU{e:Ty}{et:TypeId}(hck:chk P e none et=true){us:List Value}{off:Nat}(hle:off+e.size<=us.length)(w:World):(part et us.toArray off).run P w=.ok (toV e ((us.drop off).take e.size)) w:=by
 cases ha:e.isAgg with
 |true=>simp[part,cV hck,ha,bt hck,toV,K3]
 |false=>
  have h1':=ej ha;have hlt:off<us.length:=by omega
  simp only[part,Sem.run_bind,cV hck,ha,Result.andThen_ok,JS,if_false,Jy,A1 hlt,toV,UB,h1',Sem.run_pure];rw[J5 hlt];rfl
theorem zp {t:TypeId}{x ix:Operand}{n:Nat}{e:Ty}{k:IntKind}{i:Int}{c:List Value}{z:List e.den}{y:e.den}(hT:cb P C.tab=true)(hi:Inv C w0 M m)(hG:m.G=s.G)(ho:o.op=.index t x ix)
  (ht:C.tab.get t=some (.arr n e)) (hx:a.eval x=.agg c.toArray) (hiv:a.eval ix=.int k i) (hz:Rd m.w m.F (.arr n e) c z) (hy:aL z i=some y) (h:some (ag o.dst (.av (.val e y)) s)=some s'):Does P o a m.w (Res C w0 M m s s' o.dst):=by
 obtain⟨h0,h1,hj,rfl⟩:=lq hy;obtain⟨z1,z2,z3⟩:=hz;obtain⟨et,hu,hck⟩:=kL (aj hT ht);have hle:i.toNat*e.size+e.size<=c.length:=by rw[z2];have:=B1 e.size (show i.toNat+1<=n by omega);rw[B8]at this;omega
 refine aB hi hG (v:=toV e ((c.drop (i.toNat*e.size)).take e.size)) (sv:=.av (.val e z[i.toNat])) ?_ ⟨_,rfl,z3 i.toNat hj⟩ h;have hin:i<(n:Int):=by omega
 simp[execOp,ho,hx,hiv,Instr.index,asIntOf,run_underlying hu,h0,hin,bt hck,qU hck hle]
theorem oF{R:Type}{sz:Nat}{K:List Atom->Option R}{i:Int}{r:R}:∀{k j:Nat} {l:List Atom},gO k sz l i j K=some r->∃ q c,q<k/\i=((j+q:Nat):Int)/\kl sz (l.drop (q*sz))=some c/\K c=some r
 |0,_,_,h=>by simp[gO]at h
 |k+1,j,l,h=>by
  unfold gO at h;cases e:eqI i j with
  |true=>
   rw[e,UA]at h;split at h
   ·rename_i c hc;exact⟨0,c,by omega,by simpa[eqI]using e,by simpa using hc,h⟩
   simp at h
  |false=>rw[e,UB]at h;obtain⟨q,c,h1,h2,h3,h4⟩:=oF h;refine⟨q+1,c,by omega,by rw[h2];congr 1;omega,?_,h4⟩;rw[LH]at h3;rw[B8,L0,KX];exact h3
theorem AH {t:TypeId}{x ix:Operand}(hT:cb P C.tab=true)(hi:Inv C w0 M m)(hG:m.G=s.G)(hS:∀ x,RelSV m (a.eval x) (ah C s.env x))(ho:o.op=.index t x ix)
  (h:aZ C o s some=some s'):Does P o a m.w (Res C w0 M m s s' o.dst):=by
 simp only[au,aK,ho]at h;have hx:=hS x;obtain⟨k,i,hix,h⟩:=fW h;have hiv:=hS ix;rw[hix]at hiv;obtain⟨hiv,_,_⟩:=cF hiv;split at h
 ·rename_i b ht hp;rw[hp]at hx;obtain⟨hx,_⟩:=kb hx;have hu:=fp (aj hT ht);obtain⟨c,hc,h⟩:=A6.1 h;obtain⟨h0,h1,hj,rfl⟩:=lq hc;have hsz:i.toNat<b.size:=by simpa using hj
  refine aB hi hG (v:=.int .u8 (b.data.toList[i.toNat].toNat:Int)) (sv:=.av (.val (.int .u8) (b.data.toList[i.toNat].toNat:Int))) ?_ (dT ?_) h
  ·have hb:b[i.toNat]?=some b.data.toList[i.toNat]:=by rw[getElem?_pos b i.toNat hsz];rfl
   simp[execOp,ho,hx,hiv,Instr.index,asIntOf,run_underlying hu,h0,hb]
  have:=(b.data.toList[i.toNat]).toNat_lt;generalize (b.data.toList[i.toNat]).toNat=z at this ⊢;simp[IntKind.min,IntKind.max,IntKind.signed,IntKind.bits];omega
 ·rename_i n e l ht hp;rw[hp]at hx;obtain⟨us,hu,h1,hr⟩:=hx;obtain⟨q,c,hq,hiq,hc,h⟩:=oF h;rw[JP]at hiq;subst hiq;obtain⟨rfl,hle⟩:=gF hc;obtain⟨et,hun,hck⟩:=kL (aj hT ht);have hlen:=hr.length;simp only[JU]at hle;by_cases hz:q*e.size+e.size<=us.length
  ·refine aB hi hG (v:=toV e ((us.drop (q*e.size)).take e.size)) (sv:=d8 e ((l.drop (q*e.size)).take e.size)) ?_ (iF (λu hu=>h1 u (J3 (JV hu))) ((hr.drop _).take _)) h;have hq0:¬((q:Int)<0):=by omega
   simp[execOp,ho,hu,hiv,Instr.index,asIntOf,run_underlying hun,hq,bt hck,qU hck hz]
  exfalso;rcases Ku e.size with h0|h0
  ·rw[h0]at hz;simp at hz
  omega
 ·rename_i n e τ y0 ht hp;rw[hp]at hx;obtain⟨z,hz,h1⟩:=A6.1 h;obtain⟨y,hy,h2⟩:=A6.1 h1;unfold bC at hz;split at hz
  ·rename_i hτ;subst hτ;simp only[aw]at hz;subst hz;obtain⟨c,hc,hr⟩:=hx;exact zp hT hi hG ho ht (by rw[hc];simp[toV,Ty.isAgg]) hiv hr hy h2
  simp at hz
 simp at h
end
end Go.Vm

/-
 The machine's operations against the model's: new objects, lengths, conversions.
-/
namespace Go.Vm
section
variable {P:Program}{C:Ctx}{w0:World}{M:Own}{o:Oper}{a:Act}{m:Mem}{s s':St}
theorem fA{G:Heap}{i:Nat}(h:G.has i=false):G.get i=none:=by
 cases hg:G.get i with
 |none=>rfl
 |some o=>rw[Heap.has_of_get hg]at h;cases h
theorem bM {R:Type}{s:St}{site:Nat}{ob:Obj}{K:Nat->St->Option R}{r:R}(h:bj s site ob K=some r) :
  ∃ i,s.G.get i=none/\K i { env:=s.env,G:=(i,ob)::s.G }=some r:=by
 unfold bj at h;cases hh:s.G.has (ar 64 s.G site)with
 |true=>rw[hh]at h;simp at h
 |false=>rw[hh]at h;exact⟨_,fA hh,h⟩
theorem i8(w:World)(ob:Go.Obj){i:Nat}(h:i<w.heap.size):(w.alloc ob).heap[i]?=w.heap[i]?:=by show(w.heap.push ob)[i]?=_;rw[LV,if_neg (by omega)]
theorem b0(w:World)(ob:Go.Obj):(w.alloc ob).heap[w.heap.size]?=some ob:=by show(w.heap.push ob)[w.heap.size]?=_;rw[LV,if_pos rfl]
theorem eI(w:World)(ob:Go.Obj):Kept w (λ_=>False) (w.alloc ob):=
 ⟨rfl,rfl,rfl,by simp,λb hb _=>i8 w ob hb⟩
theorem eE(w:World)(ob:Go.Obj):Kept w (λ_=>False) (w.drew.alloc ob):=
 ⟨rfl,rfl,rfl,by simp,λb hb _=>i8 w.drew ob hb⟩
theorem so (hi:Inv C w0 M m){i:Nat}(hn:m.G.get i=none){t:TypeId}{cs:List Value}{l:List Atom}(h1:∀ u∈cs,u.oneCell'=true)
  (hr:∀ m':Mem,Evo m m'->Rel2 (ai m') cs l) :
  ∃ m',m'.w=m.w.alloc (.cells cs.toArray t)/\m'.G=(i,.box l)::m.G/\Inv C w0 M m'/\Evo m m'/\RelSV m' (.pointer (some ⟨m.w.heap.size,0,none⟩)) (.av (.ptr i 0)):=by
 have hw:=eI m.w (.cells cs.toArray t);have hnew:=b0 m.w (.cells cs.toArray t);have he:Evo m ⟨m.w.alloc (.cells cs.toArray t),m.F,λk=>if k=i then .pointer (some ⟨m.w.heap.size,0,none⟩)else m.ι k,(i,.box l)::m.G⟩:=by
  refine⟨λb hF=>⟨hF,i8 _ _ (hi.fro b hF)⟩,λid p hp=>?_⟩;have hne:i≠id:=λe=>by subst e;rw[hn]at hp;cases hp
  exact⟨p,by rw[Heap.get_cons,if_neg hne];exact hp,.inr (.inl ⟨by simp[Ne.symm hne],Alike.refl p⟩)⟩
 obtain⟨g1,g2⟩:=iC hi hw (i:=i) (o:=.box l) (h:=.pointer (some ⟨m.w.heap.size,0,none⟩)) hn (by intro b hb;simp[HB,HB1]at hb;subst hb;simp)
  ⟨m.w.heap.size,cs.toArray,t,by simp,hnew,by simpa using h1,by simpa using hr _ he⟩
 refine⟨_,rfl,rfl,g1,g2,?_⟩;exact(ao (a:=.ptr i 0) (by intros;simp)).2 ⟨rfl,.box l,by rw[Heap.get_cons,if_pos rfl],m.w.heap.size,by simp,rfl⟩
theorem zX {t:TypeId}(hT:cb P C.tab=true)(hi:Inv C w0 M m)(hG:m.G=s.G)(ho:o.op=.alloc t)
  (h:aZ C o s some=some s'):Does P o a m.w (Res C w0 M m s s' o.dst):=by
 simp only[au,aK,ho]at h;split at h
 ·rename_i τ ht;obtain⟨i,hn,h⟩:=bM h;have hck:=vn hT ht;cases hcl:τ.isClo with
  |true=>
   rw[hcl]at hck;obtain⟨m',q1,q2,q3,q4,q5⟩:=so (t:=t) hi (hG▸hn) (cs:=[Value.nilFunc]) (l:=[.u]) (by simp[Value.oneCell']) (λm' _=>⟨trivial,trivial⟩);refine Does.value (w':=m'.w) (v:=.pointer (some ⟨m.w.heap.size,0,none⟩)) ?_ ⟨m',_,rfl,?_,q3,q4,q5⟩
   ·simp[execOp,ho,Instr.alloc,(FD hck).2,newVar,newRow,q1,Value.cells]
   simp only[aw]at h;have hz:zeroCells τ=[.u]:=by cases τ<;>first|rfl|cases hcl
   rw[<- h,q2,hG,hz]
  |false=>
  rw[hcl]at hck;have hck:chk P τ none t=true:=hck;obtain⟨z,hz,_,_,hrun⟩:=rk hck;obtain⟨c0,e0,_,hr0,hr1⟩:=fy hz;rw[Jz]at e0;obtain⟨m',q1,q2,q3,q4,q5⟩:=so (t:=t) hi (hG▸hn) (cs:=z.cells.toList) (l:=zeroCells τ) (by rw[e0];exact hr0) (λm' _=>by
   rw[e0];exact hr1 m')
  refine Does.value (w':=m'.w) (v:=.pointer (some ⟨m.w.heap.size,0,none⟩)) ?_ ⟨m',_,rfl,?_,q3,q4,q5⟩
  ·simp[execOp,ho,Instr.alloc,hrun,newVar,newRow,q1]
  simp only[aw]at h;rw[<- h,q2,hG]
 simp at h
theorem Hn {t:TypeId}{x:Operand}(hi:Inv C w0 M m)(hG:m.G=s.G)(hS:∀ x,RelSV m (a.eval x) (ah C s.env x))(ho:o.op=.box t x)
  (h:aZ C o s some=some s'):Does P o a m.w (Res C w0 M m s s' o.dst):=by
 simp only[au,aK,ho]at h;split at h
 ·rename_i τ ht;split at h
  ·rename_i c hc;obtain⟨i,hn,h⟩:=bM h;obtain⟨k1,k2⟩:=kZ hc (hS x);obtain⟨m',q1,q2,q3,q4,q5⟩:=so (t:=t) hi (hG▸hn) (cs:=(a.eval x).cells.toList) (l:=c) k2 (λm' he=>cI he k1);refine Does.value (w':=m'.w) (v:=.pointer (some ⟨m.w.heap.size,0,none⟩)) ?_ ⟨m',_,rfl,?_,q3,q4,q5⟩
   ·simp[execOp,ho,Instr.box,newVar,newRow,q1]
   simp only[aw]at h;rw[<- h,q2,hG]
  simp at h
 simp at h
theorem lz (hi:Inv C w0 M m){i:Nat}(hn:m.G.get i=none){w1:World}(hw:Kept m.w (fun _=>False) w1){c:Array Value}{el:TypeId}{fz:Nat×Nat}{τ : Ty}{l:List τ.den}{cap:Nat}
  (hb:w1.heap[m.w.heap.size]?=some (.cells c el fz)) (hc:eo τ c.size fz) (h1:l.length<=cap) (h2:cap<=maxLen) (h3:cap*τ.size<=c.size)
  (hr:∀ i (h:i<l.length),Rd m.w m.F τ (seg c (i*τ.size) τ.size) l[i]) :
  ∃ m',m'.w=w1/\m'.G=(i,.arr τ l)::m.G/\Inv C w0 M m'/\Evo m m'/\RelSV m' (.slice (some ⟨m.w.heap.size,0,none⟩) l.length cap) (.av (.own i)):=by
 have he:Evo m ⟨w1,m.F,λk=>if k=i then .slice (some ⟨m.w.heap.size,0,none⟩) l.length cap else m.ι k,(i,.arr τ l)::m.G⟩:=by
  refine⟨λb hF=>⟨hF,hw.block b (hi.fro b hF) (λh=>h)⟩,λid p hp=>?_⟩;have hne:i≠id:=λe=>by subst e;rw[hn]at hp;cases hp
  exact⟨p,by rw[Heap.get_cons,if_neg hne];exact hp,.inr (.inl ⟨by simp[Ne.symm hne],Alike.refl p⟩)⟩
 have hlt:m.w.heap.size < w1.heap.size:=(Jt.1 hb).1;obtain⟨g1,g2⟩:=iC hi hw (i:=i) (o:=.arr τ l) (h:=.slice (some ⟨m.w.heap.size,0,none⟩) l.length cap) hn (by
   intro b hb;obtain⟨_,rfl⟩:=hb;exact⟨B2 _,hlt⟩)
  ⟨some ⟨m.w.heap.size,0,none⟩,cap,by simp,h1,h2,λ_=>⟨m.w.heap.size,0,c,el,fz,rfl,hb,hc,by omega,λj hj=>by
   rw[JP];exact(hr j hj).mono he.fro⟩⟩
 refine⟨_,rfl,rfl,g1,g2,?_⟩;exact(ao (a:=.own i) (by intros;simp)).2 ⟨rfl,.arr τ l,by rw[Heap.get_cons,if_pos rfl],λ_=>by simp⟩
theorem qz (hi:Inv C w0 M m){i:Nat}(hn:m.G.get i=none){w1:World}(hw:Kept m.w (fun _=>False) w1){c:Array Value}{el:TypeId}{fz:Nat×Nat}{τ : Ty}{l:List (List τ.den)}{cap:Nat}{hs:List Value}
  (hb:w1.heap[m.w.heap.size]?=some (.cells c el fz)) (hc:eo (.slice τ) c.size fz) (h1:l.length<=cap) (h2:cap<=maxLen) (h3:cap<=c.size) (hl:hs.length=l.length) (hcs:∀ k,k<l.length->c[k]?=hs[k]?)
  (hr:∀ k (h:k<l.length) v,hs[k]?=some v->HdrW m.w m.F v τ l[k]) (ha:cm hs) (hf:∀ v∈hs,cM w0 M m v) :
  ∃ m',m'.w=w1/\m'.G=(i,.deep 0 τ l none)::m.G/\Inv C w0 M m'/\Evo m m'/\RelSV m' (.slice (some ⟨m.w.heap.size,0,none⟩) l.length cap) (.av (.ownd i)):=by
 have hlt:m.w.heap.size<w1.heap.size:=(Jt.1 hb).1;obtain⟨g1,g2⟩:=rD hi hw (λb h=>h.elim);have hF:∀ b,m.F b->m.F b/\w1.heap[b]?=m.w.heap[b]?:=λb hb'=>⟨hb',hw.block b (hi.fro b hb') (λh=>h)⟩;have hfree:∀ v∈hs,cM w0 M ⟨w1,m.F,m.ι,m.G⟩ v:=by intro v hv b hb';obtain⟨k1,k2,k3,k4⟩:=hf v hv b hb';exact⟨k1,k2,JQ k3 hw.size,k4⟩
 have hub:∀ b,HB (.slice (some ⟨m.w.heap.size,0,none⟩) l.length cap) b->b=m.w.heap.size:=λb hb'=>hb'.2.symm;have hd:DeepW w1 m.F (.slice (some ⟨m.w.heap.size,0,none⟩) l.length cap) hs τ l none:=by
  refine⟨hl,⟨_,cap,rfl,h1,h2,λ_=>⟨m.w.heap.size,0,c,el,fz,rfl,hb,hc,by omega,λk hk _=>by rw[JP];exact hcs k hk⟩⟩,λk hk v hv _=>?_,λk v hk=>(by cases hk),?_⟩
  ·exact(hr k hk v hv).mono hF (λb hb'=>hw.block b (hf v (Jv hv) b hb').2.2.1 (λh=>h))
  refine K4 (λv hv b hb1 hb2=>?_) ha;have:=hub b hb1;have:=(hf v hv b hb2).2.2.1;omega
 obtain⟨m',p1,p2,p3,p4,p5,p6,p7⟩:=gP (m:=⟨w1,m.F,m.ι,m.G⟩) g1 hn hd (λv hv=>by
  rcases A8.1 hv with rfl|hv
  ·intro b hb';have:=hub b hb';subst this;have:=hi.kept.size;exact⟨.inl this,λhF'=>by have:=hi.fro _ hF';omega,hlt,λid o ho hob hb2=>by have:=(hi.own id o _ ho hob hb2).2.2;omega⟩
  exact hfree v hv)
 exact⟨m',p1,p3,p5,g2.trans p6,(ao (a:=.ownd i) (by intros;simp)).2 p7⟩
theorem DD (hi:Inv C w0 M m){i:Nat}(hn:m.G.get i=none){w1:World}(hw:Kept m.w (fun _=>False) w1){τ : Ty}(ad:Option Addr) :
  ∃ m',m'.w=w1/\m'.G=(i,.arr τ [])::m.G/\Inv C w0 M m'/\Evo m m'/\RelSV m' (.slice ad 0 0) (.av (.own i)):=by
 obtain⟨g1,g2⟩:=iC hi hw (i:=i) (o:=.arr τ []) (h:=.slice ad 0 0) hn (by intro b hb;cases ad<;>simp[HB,HB1]at hb)
  ⟨ad,0,by simp,by simp,by unfold maxLen;omega,λh=>absurd rfl h⟩
 refine⟨_,rfl,rfl,g1,g2,?_⟩;exact(ao (a:=.own i) (by intros;simp)).2 ⟨rfl,.arr τ [],by rw[Heap.get_cons,if_pos rfl],λ_=>by simp⟩
theorem w8 (z:Array Value)(hz:0 < z.size)(n i:Nat)(h:i < n) :
  seg ((Kb (n*z.size)).map (z[· % z.size]!)) (i*z.size) z.size=z.toList:=by
 apply Kk;intro k;by_cases hk:k<z.size
 ·rw[seg_getElem? _ _ _ _ hk];have hlt:i*z.size+k<n*z.size:=by have:(i+1)*z.size<=n*z.size:=B1 _ h;rw[B8]at this;omega
  have hm:(i*z.size+k)%z.size=k:=by rw[KX,LK,Mq hk]
  simp[hlt,hm,hk]
 have h2:z.toList[k]?=none:=KG (by rw[JD];omega);rw[h2];unfold seg;rw[JC];simp[hk]
theorem s7 {t:TypeId}{n c:Operand}(hT:cb P C.tab=true)(hi:Inv C w0 M m)(hG:m.G=s.G)(hS:∀ x,RelSV m (a.eval x) (ah C s.env x))(ho:o.op=.makeSlice t n c)
  (h:aZ C o s some=some s'):Does P o a m.w (Res C w0 M m s s' o.dst):=by
 simp only[au,aK,ho]at h;split at h
 ·rename_i e ht;obtain⟨et,hu,hck⟩:=aT (aj hT ht);obtain⟨k1,x,hx,h⟩:=fW h;obtain⟨k2,y,hy,h⟩:=fW h;have hxv:=hS n;have hyv:=hS c;rw[hx]at hxv;rw[hy]at hyv;obtain⟨hxv,_,_⟩:=cF hxv;obtain⟨hyv,_,_⟩:=cF hyv;obtain⟨l,hl,h⟩:=A6.1 h;unfold bG at hl;split at hl
  ·rename_i hc;simp only[aw]at hl;subst hl;obtain⟨c1,c2,c3⟩:=hc;have hlim:lim=68719476736:=rfl;rw[hlim]at c3;obtain⟨i,hn,h⟩:=bM h;obtain⟨inf,z,r1,r2,r3,r4,r5,r6,r7⟩:=dn hck;obtain⟨c0,e0,hr0,_⟩:=dO (m:=m) (lf (aj hT ht)) r5;rw[Jz]at e0;have hzs:z.cells.size=e.size:=by rw[<- JD,e0];exact hr0.len
   have w1:IntKind.i64.wrap x=x:=IntWalk.i64_in x (by omega);have w2:IntKind.i64.wrap y=y:=IntWalk.i64_in y (by omega);have hb1:(inf.bytes:Int)*y<=2048*68719476736:=by
    have:(inf.bytes:Int)<=2048:=by omega
    exact MC this c3 (by omega) (by omega)
   have hb2:(inf.bytes:Int)*x<=2048*68719476736:=by
    have:(inf.bytes:Int)<=2048:=by omega
    exact MC this (by omega) (by omega) (by omega)
   have h48:(2:Int)^48=281474976710656:=by decide
   have n1:¬y<0:=by omega
   have n2:¬x<0:=by omega
   have n3:¬(inf.bytes:Int)*y>2^48:=by omega
   have n4:¬x>y:=by omega
   obtain⟨zc,hzc⟩ : ∃ zc,zc=(if y.toNat * e.size=0 then #[] else z.cells):=⟨_,rfl⟩;have hrun:(Instr.makeSlice t (.int k1 x) (.int k2 y)).run P m.w=.ok (.slice (some ⟨m.w.heap.size,0,none⟩) x.toNat y.toNat)
     (m.w.alloc (.cells ((Kb (y.toNat*e.size)).map (zc[· % zc.size]!)) et)):=by
    have hs:=bt hck m.w;simp only[Instr.makeSlice,Sem.run_bind,run_underlying hu,Result.andThen_ok,asInt,asIntOf,Sem.run_pure,typeInfo,run_program,r1,w1,w2];simp only[n1,n2,n3,n4,decide_false,Bool.or_self,Bool.false_or,Bool.or_false,JS,if_false];by_cases hz:y.toNat*e.size=0
    ·rw[if_pos hz]at hzc;subst hzc;simp[hs,hz,newRow]
    rw[if_neg hz]at hzc;subst hzc;simp[hs,hz,newRow,zeroValue,typeInfo,r1,r4]
   have hcsz:((Kb (y.toNat*e.size)).map (zc[· % zc.size]!)).size=y.toNat*e.size:=by simp
   have hsegz:∀ j,j<x.toNat->Rd m.w m.F e (seg ((Kb (y.toNat*e.size)).map (zc[· % zc.size]!)) (j*e.size) e.size) (bk e)/\(e.size≠0->seg ((Kb (y.toNat*e.size)).map (zc[· % zc.size]!)) (j*e.size) e.size=c0):=by
    intro j hj;by_cases hz:e.size=0
    ·have:c0=[]:=by have:=hr0.len;rw[hz]at this;exact Jp this
     subst this;have:seg ((Kb (y.toNat*e.size)).map (zc[· % zc.size]!)) (j*e.size) e.size=[]:=by unfold seg;rw[hz];simp
     rw[this];exact⟨hr0,λh=>absurd hz h⟩
    have hne:y.toNat*e.size≠0:=by
     intro h0;rcases Mv.1 h0 with h0|h0<;>omega
    rw[if_neg hne]at hzc;subst hzc;have:=w8 z.cells (by omega) y.toNat j (by omega);rw[hzs]at this;rw[hzs,this,e0];exact⟨hr0,λ_=>rfl⟩
   obtain⟨d,hd⟩:∃ d,d=(C.deep.any λd=>A7 d (o.dst.getD 0)):=⟨_,rfl⟩;rw[<- hd]at h;have plain:∃ m',m'.w=m.w.alloc (.cells ((Kb (y.toNat*e.size)).map (zc[· % zc.size]!)) et)/\m'.G=(i,.arr e (A5 x.toNat (bk e)))::m.G/\Inv C w0 M m'/\Evo m m'/\RelSV m' (.slice (some ⟨m.w.heap.size,0,none⟩) x.toNat y.toNat) (.av (.own i)):=by
    obtain⟨m',q1,q2,q3,q4,q5⟩:=lz (τ:=e) (l:=A5 x.toNat (bk e)) (cap:=y.toNat) (fz:=(0,0)) hi (hG▸hn) (eI m.w (.cells ((Kb (y.toNat*e.size)).map (zc[· % zc.size]!)) et)) (b0 m.w _) (.inl (B2 _)) (by simp;omega) (by unfold maxLen;omega) (by rw[hcsz];exact B2 _) (λj hj=>by
     simp only[J8]at hj;rw[KC];exact(hsegz j hj).1)
    exact⟨m',q1,q2,q3,q4,by simpa using q5⟩
   obtain⟨m',q1,q2,q3,q4,q5⟩:∃ m',m'.w=m.w.alloc (.cells ((Kb (y.toNat*e.size)).map (zc[· % zc.size]!)) et)/\m'.G=(i,gW d e (A5 x.toNat (bk e)))::m.G/\Inv C w0 M m'/\Evo m m'/\RelSV m' (.slice (some ⟨m.w.heap.size,0,none⟩) x.toNat y.toNat) (.av (eQ d e i)):=by
    cases d with
    |false=>exact plain
    |true=>
     cases e with
     |slice σ=>
      have hc0:c0=[.slice none 0 0]:=by unfold zeroIs at r5;split at r5<;>simp_all
      obtain⟨m',q1,q2,q3,q4,q5⟩:=qz (τ:=σ) (l:=A5 x.toNat ([]:List σ.den)) (hs:=A5 x.toNat (.slice none 0 0)) (cap:=y.toNat) (fz:=(0,0)) hi (hG▸hn) (eI m.w (.cells ((Kb (y.toNat*(Ty.slice σ).size)).map (zc[· % zc.size]!)) et)) (b0 m.w _) (.inl (B2 _)) (by simp;omega) (by unfold maxLen;omega) (by rw[hcsz];simp[Ty.size]) (by simp) (λk hk=>by
       simp only[J8]at hk;have e1:=(hsegz k hk).2 (by simp[Ty.size]);rw[hc0]at e1;simp only[Ty.size,Km]at e1 ⊢;have e2:=seg_getElem? ((Kb (y.toNat*1)).map (zc[· % zc.size]!)) k 1 0 (by omega);simp only[Km]at e2;rw[e1,JY]at e2;rw[<- e2];simp[hk]) (λk hk v hv=>by
        simp only[List.getElem?_replicate]at hv;split at hv
        ·cases hv;rw[KC];exact⟨none,0,rfl,by simp,by unfold maxLen;omega,λh=>absurd rfl h⟩
        cases hv) (by
        rw[cm,Ks];intro p q hp hq _ b hb;rw[KC]at hb;simp[HB,HB1]at hb) (λv hv b hb=>by
         rw[List.mem_replicate]at hv;rw[hv.2]at hb;simp[HB,HB1]at hb)
      refine⟨m',q1,q2,q3,q4,?_⟩;rw[J8]at q5;exact q5
     |_=>exact plain
   refine Does.value (w':=m'.w) (v:=.slice (some ⟨m.w.heap.size,0,none⟩) x.toNat y.toNat) ?_ ⟨m',.av (eQ d e i),rfl,?_,q3,q4,q5⟩
   ·simp[execOp,ho,hxv,hyv,hrun,q1]
   simp only[aw]at h;rw[<- h,q2,hG]
  simp at hl
 simp at h
theorem dU{τ:Option Ty}{v:SV}(h:rv τ v=true):(∃ b,v=.av (.val .str b)/\τ=some .str)\/((∀ b,v≠.av (.val .str b))/\∃ e,τ=some (.slice e)):=by
 unfold rv at h;split at h
 ·exact .inl ⟨_,rfl,rfl⟩
 all_goals first|exact .inr ⟨by intros;simp,_,rfl⟩|cases h
theorem EK (hT:cb P C.tab=true)(hi:Inv C w0 M m)(hG:m.G=s.G)(hS:∀ x,RelSV m (a.eval x) (ah C s.env x)){x:Operand}{ats:Array TypeId}
  (ho:o.op=.call { callee:=.builtin .len,args:=#[x],argTypes:=ats })
  (h:cond (rv (C.tab.get (ats.getD 0 0)) (ah C s.env x)&&JK 1 ats.size) (lenOf s (ah C s.env x) λn=>some (ag o.dst (.av (.val (.int .i64) n)) s)) none=some s'):Does P o a m.w (Res C w0 M m s s' o.dst):=by
 ·cases hc:(rv (C.tab.get (ats.getD 0 0)) (ah C s.env x)&&JK 1 ats.size)with
  |false=>rw[hc]at h;simp at h
  |true=>
   rw[hc]at h;simp only[UA]at h;simp only[np]at hc;obtain⟨hty,hsz⟩:=hc;have hsz:=JF hsz;have hx:=hS x;have hat:ats[0]?=some (ats.getD 0 0):=by simp[Array.getElem?_eq_getElem (show 0<ats.size by omega)]
   have fin {n:Nat} (hn:n<=maxLen) (hv:(∃ b:ByteArray,P.underlying (ats.getD 0 0)=some .string/\a.eval x=.string b/\b.size=n)\/(∃ et ad cap,P.underlying (ats.getD 0 0)=some (.slice et)/\a.eval x=.slice ad n cap))
     (hs:some (ag o.dst (.av (.val (.int .i64) (n:Int))) s)=some s'):Does P o a m.w (Res C w0 M m s s' o.dst):=by
    refine aB hi hG (v:=.int .i64 n) ?_ (dT (rY hn)) hs;clear hty;generalize ats.getD 0 0=t0 at hat hv;rcases hv with⟨b,h1,h2,h3⟩|⟨et,ad,cap,h1,h2⟩
    ·simp[execOp,ho,resolve,invoke,builtin,h2,Builtin.len_,hat,run_underlying h1,goInt,h3]
    simp[execOp,ho,resolve,invoke,builtin,h2,Builtin.len_,hat,run_underlying h1,goInt]
   clear hsz;generalize ats.getD 0 0=t0 at hat hty fin;unfold lenOf at h;split at h
   ·rename_i e l hp;rw[hp]at hx hty;obtain⟨ad,cap,hv,h2,h3,_⟩:=gy hx;obtain⟨e1,ht⟩:∃ e,C.tab.get t0=some (.slice e):=by
     rcases dU hty with⟨_,h,_⟩|⟨_,h⟩
     ·cases h
     exact h
    obtain⟨et,hu,_⟩:=aT (aj hT ht);exact fin (by omega) (.inr ⟨et,ad,cap,hu,hv⟩) h
   ·rename_i b hp;rw[hp]at hx hty;obtain⟨hv,h2⟩:=kb hx;have ht:C.tab.get t0=some .str:=by
     rcases dU hty with⟨_,_,h⟩|⟨h,_⟩
     ·exact h
     exact absurd rfl (h b)
    exact fin h2 (.inl ⟨b,fp (aj hT ht),hv,rfl⟩) h
   ·rename_i hp;rw[hp]at hx hty;obtain⟨ad,hv⟩:=hx;obtain⟨e1,ht⟩:∃ e,C.tab.get t0=some (.slice e):=by
     rcases dU hty with⟨_,h,_⟩|⟨_,h⟩
     ·cases h
     exact h
    obtain⟨et,hu,_⟩:=aT (aj hT ht);exact fin (n:=0) (by omega) (.inr ⟨et,ad,0,hu,hv.1⟩) h
   ·rename_i id hp;rw[hp]at hx hty;obtain⟨_,ob,hob,hv⟩:=hx;rw[hG]at hob;split at h
    ·rename_i e l hl;rw[hl]at hob;simp only[aw]at hob;subst hob;obtain⟨ad,cap,r1,r2,r3,_⟩:=hi.objs id _ (hG▸hl);obtain⟨e1,ht⟩:∃ e,C.tab.get t0=some (.slice e):=by
      rcases dU hty with⟨_,h,_⟩|⟨_,h⟩
      ·cases h
      exact h
     obtain⟨et,hu,_⟩:=aT (aj hT ht);exact fin (by omega) (.inr ⟨et,ad,cap,hu,by rw[hv rfl,r1]⟩) h
    simp at h
   ·rename_i id off n hp;rw[hp]at hx hty;obtain⟨_,ob,hob,hv⟩:=hx;rw[hG]at hob;split at h
    ·rename_i e l hl;rw[hl]at hob;simp only[aw]at hob;subst hob;obtain⟨ad,cap,r1,r2,r3,_⟩:=hi.objs id _ (hG▸hl);simp only at hv;obtain⟨e1,ht⟩:∃ e,C.tab.get t0=some (.slice e):=by
      rcases dU hty with⟨_,h,_⟩|⟨_,h⟩
      ·cases h
      exact h
     obtain⟨et,hu,_⟩:=aT (aj hT ht);obtain⟨a',n',cap',ad',v1,v2,v3⟩:=hv.2;exact fin (by omega) (.inr ⟨et,_,_,hu,v2⟩) h
    simp at h
   ·rename_i id off n hp;rw[hp]at hx hty;obtain⟨_,ob,hob,hv⟩:=hx;rw[hG]at hob;split at h
    ·rename_i e l hl;rw[hl]at hob;simp only[aw]at hob;subst hob;obtain⟨ad,cap,r1,r2,r3,_⟩:=hi.objs id _ (hG▸hl);simp only at hv;obtain⟨e1,ht⟩:∃ e,C.tab.get t0=some (.slice e):=by
      rcases dU hty with⟨_,h,_⟩|⟨_,h⟩
      ·cases h
      exact h
     obtain⟨et,hu,_⟩:=aT (aj hT ht);obtain⟨k1,k2,b,o',n',cap',v1,v2⟩:=hv;exact fin (by omega) (.inr ⟨et,_,_,hu,v2⟩) h
    simp at h
   ·rename_i id hp;rw[hp]at hx hty;obtain⟨_,ob,hob,hv⟩:=hx;rw[hG]at hob;split at h
    ·rename_i ver e l hole hl;rw[hl]at hob;simp only[aw]at hob;subst hob;obtain⟨u,hs,d1,d2⟩:=cr hi (hG▸hl);obtain⟨us,v1,v2⟩:=hv;rw[d1]at v1;simp only[Value.tuple.injEq]at v1;subst v1;simp only[Jy,Ju,aw]at v2;obtain⟨ad,cap,r1,r2,r3,_⟩:=d2.outer;obtain⟨e1,ht⟩:∃ e,C.tab.get t0=some (.slice e):=by
      rcases dU hty with⟨_,h,_⟩|⟨_,h⟩
      ·cases h
      exact h
     obtain⟨et,hu,_⟩:=aT (aj hT ht);exact fin (by omega) (.inr ⟨et,ad,cap,hu,by rw[<- v2,r1]⟩) h
    simp at h
   ·rename_i id ver j hp;rw[hp]at hx hty;obtain⟨_,ob,hob,hv⟩:=hx;rw[hG]at hob;split at h
    ·rename_i ver' e l hl;rw[hl]at hob;simp only[aw]at hob;subst hob;cases hb:A7 ver ver' with
     |false=>rw[hb]at h;simp at h
     |true=>
      rw[hb]at h;have:=A3 hb;subst this;obtain⟨hj,_,us,v1,v2⟩:=hv.2 rfl;simp only[UA,jZ hj]at h;obtain⟨u,hs,d1,d2⟩:=cr hi (hG▸hl);rw[d1]at v1;simp only[Value.tuple.injEq]at v1;subst v1;simp only[Jy,JG]at v2;obtain⟨ad,cap,r1,r2,r3,_⟩:=d2.inner j hj _ v2 (by simp);obtain⟨e1,ht⟩:∃ e,C.tab.get t0=some (.slice e):=by
       rcases dU hty with⟨_,h,_⟩|⟨_,h⟩
       ·cases h
       exact h
      obtain⟨et,hu,_⟩:=aT (aj hT ht);exact fin (by omega) (.inr ⟨et,ad,cap,hu,r1⟩) h
    simp at h
   simp at h
end
end Go.Vm

/-
 The machine's operations against the model's: conversions, parts of slices, literals.
-/
namespace Go.Vm
section
variable {P:Program}{C:Ctx}{w0:World}{M:Own}{o:Oper}{a:Act}{m:Mem}{s s':St}
theorem vu{x y:Int}{lo hi:Int}(h1:lo<=x/\x<=hi)(h2:lo<=y/\y<=hi):lo<=de x y/\de x y<=hi:=by unfold de;split<;>assumption
theorem v8{x y:Int}{lo hi:Int}(h1:lo<=x/\x<=hi)(h2:lo<=y/\y<=hi):lo<=iU x y/\iU x y<=hi:=by unfold iU;split<;>assumption
theorem jS (mx:Bool)(hS:∀ x,RelSV m (a.eval x) (ah C s.env x)){R:Type}{K:Int->Option R}{z:R}:∀(xs:List Operand) (n:Int),
  IntKind.i64.min<=n/\n<=IntKind.i64.max->iL mx n (xs.map (ah C s.env)) K=some z ->
  ∃ n',K n'=some z/\(IntKind.i64.min<=n'/\n'<=IntKind.i64.max)/\((xs.map a.eval).foldlM (cond mx Builtin.max2 Builtin.min2) (.int .i64 n)).run P m.w=.ok (.int .i64 n') m.w
 |[],n,hn,h=>⟨n,h,hn,by simp⟩
 |x::xs,n,hn,h=>by
  simp only[JA,iL]at h;obtain⟨y,hy,h⟩:=lX h;have hx:=hS x;rw[hy]at hx;obtain⟨hx,h1,h2⟩:=cF hx;cases mx with
  |true=>obtain⟨n',r1,r2,r3⟩:=jS true hS xs (iU n y) (v8 hn ⟨h1,h2⟩) h;refine⟨n',r1,r2,?_⟩;simp only[JA,Mg,UA,hx,Builtin.max2,Sem.run_bind,Sem.run_pure,Result.andThen_ok];exact r3
  |false=>obtain⟨n',r1,r2,r3⟩:=jS false hS xs (de n y) (vu hn ⟨h1,h2⟩) h;refine⟨n',r1,r2,?_⟩;simp only[JA,Mg,UB,hx,Builtin.min2,Sem.run_bind,Sem.run_pure,Result.andThen_ok];exact r3
theorem GD (hT:cb P C.tab=true)(hi:Inv C w0 M m)(hG:m.G=s.G)(hS:∀ x,RelSV m (a.eval x) (ah C s.env x)){args:Array Operand}{ats:Array TypeId}
  (ho:o.op=.call { callee:=.builtin .cap,args,argTypes:=ats }) (h:aZ C o s some=some s'):Does P o a m.w (Res C w0 M m s s' o.dst):=by
 simp only[au,aK,ho]at h;split at h
 ·rename_i x t ha ht;have ha:args=#[x]:=by rw[<- JT (xs:=args),ha]
  have ht:ats=#[t]:=by rw[<- JT (xs:=ats),ht]
  subst ha ht;have hx:=hS x;split at h
  ·rename_i e d hty hv;rw[hv]at hx;obtain⟨ad,hx,_⟩:=hx;obtain⟨et,hu,_⟩:=aT (aj hT hty);exact aB hi hG (v:=.int .i64 0) (by simp[execOp,ho,resolve,invoke,builtin,Builtin.cap_,run_underlying hu,hx,goInt]) (dT ⟨by decide,by decide⟩) h
  cases h
 cases h
theorem Gk (hi:Inv C w0 M m)(hG:m.G=s.G)(hS:∀ x,RelSV m (a.eval x) (ah C s.env x)){args:Array Operand}{ats:Array TypeId}
  (ho:o.op=.call { callee:=.builtin .min,args,argTypes:=ats }) (h:aZ C o s some=some s'):Does P o a m.w (Res C w0 M m s s' o.dst):=by
 simp only[au,aK,ho]at h;obtain⟨l,rfl⟩:∃ l:List Operand,args=l.toArray:=⟨args.toList,by simp⟩;cases l with
 |nil=>simp at h
 |cons x xs=>simp only[JA]at h;obtain⟨y,hy,h⟩:=lX h;have hx:=hS x;rw[hy]at hx;obtain⟨hx,h1,h2⟩:=cF hx;obtain⟨n',r1,r2,r3⟩:=jS (P:=P) (m:=m) (a:=a) false hS xs y ⟨h1,h2⟩ h;refine aB hi hG (v:=.int .i64 n') ?_ (dT r2) r1;simp only[UB]at r3;simp[execOp,ho,resolve,invoke,builtin,Builtin.min_,hx,r3]
theorem Gu (hi:Inv C w0 M m)(hG:m.G=s.G)(hS:∀ x,RelSV m (a.eval x) (ah C s.env x)){args:Array Operand}{ats:Array TypeId}
  (ho:o.op=.call { callee:=.builtin .max,args,argTypes:=ats }) (h:aZ C o s some=some s'):Does P o a m.w (Res C w0 M m s s' o.dst):=by
 simp only[au,aK,ho]at h;obtain⟨l,rfl⟩:∃ l:List Operand,args=l.toArray:=⟨args.toList,by simp⟩;cases l with
 |nil=>simp at h
 |cons x xs=>simp only[JA]at h;obtain⟨y,hy,h⟩:=lX h;have hx:=hS x;rw[hy]at hx;obtain⟨hx,h1,h2⟩:=cF hx;obtain⟨n',r1,r2,r3⟩:=jS (P:=P) (m:=m) (a:=a) true hS xs y ⟨h1,h2⟩ h;refine aB hi hG (v:=.int .i64 n') ?_ (dT r2) r1;simp only[UA]at r3;simp[execOp,ho,resolve,invoke,builtin,Builtin.max_,hx,r3]
theorem ww {x:Operand}{i:Nat}(hi:Inv C w0 M m)(hG:m.G=s.G)(hS:∀ x,RelSV m (a.eval x) (ah C s.env x))(ho:o.op=.extract x i)
  (h:aZ C o s some=some s'):Does P o a m.w (Res C w0 M m s s' o.dst):=by
 simp only[au,aK,ho]at h;have hx:=hS x;split at h
 ·rename_i l hp;rw[hp]at hx;obtain⟨us,hv,hr⟩:=hx;split at h
  ·rename_i c hc;obtain⟨u,hu,hr'⟩:=hr.get hc;exact aB hi hG (v:=u) (sv:=.agg c) (by simp[execOp,ho,hv,Instr.extract,hu]) (by simp only[eW,UA]at hr';exact hr') h
  ·rename_i at' hc;obtain⟨u,hu,hr'⟩:=hr.get hc;simp only[eW,UB]at hr';obtain⟨b,hb,hr'⟩:=hr';simp only[KJ,and_true]at hb;subst hb;exact aB hi hG (v:=u) (sv:=.av at') (by simp[execOp,ho,hv,Instr.extract,hu]) (RelSV.of_atom hr') h
  simp at h
 simp at h
theorem mu (hi:Inv C w0 M m)(hG:m.G=s.G)(hS:∀ x,RelSV m (a.eval x) (ah C s.env x)):∀(xs:List Operand) {l:List Nat},oj s.G (xs.map (ah C s.env))=some l ->
  Rel2 (fun u c=>∃ o,m.G.get c=some o/\(match o with
    |.box _=>∃ b,m.ι c=.pointer (some ⟨b,0,none⟩)/\u=.pointer (some ⟨b,0,none⟩)
    |.dead=>True
    |_=>False)) (xs.map a.eval) l
 |[],l,h=>by simp[oj]at h;subst h;trivial
 |x::xs,l,h=>by
  have hx:=hS x;simp only[JA]at h ⊢;generalize ah C s.env x=v at h hx;unfold oj at h;split at h
  ·cases ‹_::_=[]›
  ·rename_i i r heq;simp only[KJ]at heq;obtain⟨rfl,rfl⟩:=heq;obtain⟨_,ob,hob,hv⟩:=(ao (m:=m) (a:=.ptr i 0) (by intros;simp)).1 hx;split at h
   ·rename_i bl hbl;split at h
    ·rename_i l' hl';simp only[aw]at h;subst h;exact⟨⟨ob,hob,hv⟩,mu hi hG hS xs hl'⟩
    simp at h
   simp at h
  simp at h
theorem mJ:∀{us:List Value} {l:List Atom} {q:List (Σ t:Ty,t.den)},Rel2 (ai m) us l->ia l=some q->Rel2 (λu (p:Σ t:Ty,t.den)=>Rd m.w m.F p.1 [u] p.2/\p.1.isAgg=false) us q
 |[],[],q,_,h=>by simp only[ia,aw]at h;subst h;trivial
 |u::us,a::l,q,hr,h=>by
  cases a with
  |val τ x=>simp only[ia]at h;obtain⟨q',hq,h⟩:=A6.1 h;simp only[aw]at h;subst h;exact⟨hr.1,mJ hr.2 hq⟩
  |_=>simp[ia]at h
theorem kE (hi:Inv C w0 M m)(hS:∀ x,RelSV m (a.eval x) (ah C s.env x)):∀(xs:List Operand) {q:(Σ t:Ty,t.den)×List Nat},jX m.G (xs.map (ah C s.env))=some q ->
  Rd m.w (Thru m q.2) q.1.1 (xs.map a.eval) q.1.2
 |[],q,h=>by simp only[List.map_nil,jX,aw]at h;subst h;rfl
 |x::xs,q,h=>by
  have hx:=hS x;simp only[JA]at h ⊢;unfold jX at h;split at h
  ·rename_i he;cases he
  ·rename_i e y r he;simp only[KJ]at he;obtain⟨he,rfl⟩:=he;split at h
   ·rename_i q' hq';simp only[aw]at h;subst h;have ih:=kE hi hS xs hq';rw[he]at hx;obtain⟨cs,h1,h2⟩:=hx;obtain⟨v,rfl,_⟩:=h2.single rfl;have h1:a.eval x=v:=h1;exact⟨[a.eval x],xs.map a.eval,rfl,Hb (h1▸h2),ih⟩
   simp at h
  ·rename_i i r he;simp only[KJ]at he;obtain⟨he,rfl⟩:=he;split at h
   ·rename_i τ y hg;cases ha:τ.isAgg with
    |true=>rw[ha]at h;simp at h
    |false=>
     rw[ha]at h;simp only[UB]at h;split at h
     ·rename_i q' hq';simp only[aw]at h;subst h;have ih:=kE hi hS xs hq';rw[he]at hx;have hx:=(ao (m:=m) (a:=.ptr i 0) (by intros;simp)).1 hx;have hbv:dQ m.G τ i 0=some y:=by
       have hsz:=ej ha;have hc:aA m.G τ [.val τ y]=some (y,[]):=by
        cases τ<;>first|(simp[aA,aF,bC];done)|simp[Ty.isAgg]at ha
       unfold dQ;rw[hg];simp only[hsz,B6,JB,JP,K6,hc];rfl
      have hb:=pY hi hbv hx;refine⟨[a.eval x],xs.map a.eval,rfl,li ?_ hb,li (λk hk=>by simp[hk]) ih⟩;intro k hk;have:c9 m.G i=[]:=by simp[c9,hg,atomIds]
      rw[this]at hk;simp at hk;simp[hk]
     simp at h
   simp at h
  simp at h
theorem uy {fn:Fn}{first caps:Array Operand}(hi:Inv C w0 M m)(hG:m.G=s.G)(hS:∀ x,RelSV m (a.eval x) (ah C s.env x))(ho:o.op=.makeFunc fn first caps)
  (h:aZ C o s some=some s'):Does P o a m.w (Res C w0 M m s s' o.dst):=by
 cases fn with
 |func f=>
  simp only[au,aK,ho]at h;split at h
  ·rename_i l hf hc;have hf':first=#[]:=by rw[<- JT (xs:=first),hf]
   subst hf';have hr:=mu hi hG hS caps.toList hc;refine aB hi hG (v:=.func (.func f) #[] (caps.toList.map a.eval).toArray) (sv:=.av (.clo f l)) ?_ (show ai m _ (.clo f l)from⟨_,rfl,hr⟩) h;have e:LC a.eval caps=(caps.toList.map a.eval).toArray:=by apply LJ;simp
   simp[execOp,ho,Instr.makeFunc,e]
  ·rename_i x hf hc;have hf':first=#[x]:=by rw[<- JT (xs:=first),hf]
   subst hf';have hc':caps=#[]:=by have hr:=(mu hi hG hS caps.toList hc).length;simp at hr;exact hr
   subst hc';have hx:=hS x;split at h
   ·rename_i l hl;rw[hl]at hx;obtain⟨us,hu,h1,hr⟩:=hx;obtain⟨q,hq,h⟩:=A6.1 h;exact aB hi hG (v:=.func (.func f) #[.agg us.toArray] #[]) (sv:=.av (.bnd f q)) (by simp[execOp,ho,Instr.makeFunc,hu]) (show ai m _ (.bnd f q)from⟨us,rfl,h1,mJ hr hq⟩) h
   simp at h
  ·rename_i hf hc;have hf':first=#[]:=by rw[<- JT (xs:=first),hf]
   subst hf';split at h
   ·rename_i q hq;simp only[aw]at h;rw[<- hG]at hq;have hr:=kE hi hS caps.toList hq;obtain⟨m1,a1,a2,a3,a4,a5,a6⟩:=cE q.2 hi;have e:LC a.eval caps=(caps.toList.map a.eval).toArray:=by apply LJ;simp
    refine Does.value (w':=m1.w) (v:=.func (.func f) #[] (caps.toList.map a.eval).toArray) (by simp[execOp,ho,Instr.makeFunc,e,a1]) ⟨m1,.av (.val (.clo f q.1.1) q.1.2),rfl,?_,a4,a5,?_⟩
    ·rw[<- h,a3,hG]
    exact⟨[_],rfl,_,rfl,hr.mono λb hb=>⟨a6 b hb,by rw[a1]⟩⟩
   simp at h
  simp at h
 |_=>simp[au,aK,ho]at h
theorem u6 {t u:TypeId}{x:Operand}(hT:cb P C.tab=true)(hi:Inv C w0 M m)(hG:m.G=s.G)(hS:∀ x,RelSV m (a.eval x) (ah C s.env x))(ho:o.op=.convert t u x)
  (h:aZ C o s some=some s'):Does P o a m.w (Res C w0 M m s s' o.dst):=by
 simp only[au,aK,ho]at h;have hx:=hS x;split at h
 ·rename_i _ k1 k k2 y h1 h2 hp;rw[hp]at hx;obtain⟨hx,_,_⟩:=cF hx;have u1:=iS (aj hT h1);have u2:=iS (aj hT h2);exact aB hi hG (v:=.int k (k.wrap y)) (by simp[execOp,ho,hx,convert,run_underlying u1,run_underlying u2,Conv.intToInt]) (dT (wrap_within k _)) h
 ·rename_i b h1 h2 hp;rw[hp]at hx;obtain⟨hx,hb⟩:=kb hx;have u1:=fp (aj hT h1);obtain⟨et,u2,hck⟩:=aT (aj hT h2);have u3:=iS hck;obtain⟨i,hn,h⟩:=bM h;have hrun:=Lib.run_convert_string_bytes (P:=P) m.w t u et b u1 u2 u3;have hge:b.size<=grownCap m.w b.size 0 et:=grownCap_ge _ _ _ _;have hle:grownCap m.w b.size 0 et<=maxLen:=grownCap_le_maxLen _ _ _ _ hb;have hcs:(Lib.bytesCells m.w et b).size=grownCap m.w b.size 0 et:=by simp[Lib.bytesCells];have:b.data.size=b.size:=rfl;omega
  have hkept:Kept m.w (λ_=>False) (Lib.bytesWorld m.w et b):=by refine⟨?_,?_,?_,by rw[Lib.bytesWorld_size];omega,λk hk _=>Lib.bytesWorld_at_old _ _ _ _ hk⟩<;>rfl
  have hlen:(iH b).length=b.size:=by simp[iH]
  obtain⟨m',q1,q2,q3,q4,q5⟩:=lz (τ:=.int .u8) (l:=iH b) (cap:=grownCap m.w b.size 0 et) hi (hG▸hn) hkept (Lib.bytesWorld_at_new m.w et b) (.inr ⟨rfl,B2 _⟩) (by omega) hle (by simp only[Ty.size];omega) (λj hj=>by
   have hj':j<b.data.size:=by rw[hlen]at hj;exact hj
   have:seg (Lib.bytesCells m.w et b) (j*(Ty.int .u8).size) (Ty.int .u8).size=[.int .u8 (b.data[j].toNat:Int)]:=by
    apply Kk;intro k;simp only[Ty.size,Km];cases k with
    |zero=>rw[seg_getElem? _ _ _ _ (by omega)];have hjb:j<b.size:=hj';simp[Lib.bytesCells,Array.getElem?_append,hj',hjb]
    |succ k=>unfold seg;rw[JC];simp
   rw[this];refine⟨?_,?_⟩
   ·simp[iH]
   have:=(b.data[j]).toNat_lt;have e:(iH b)[j]=(b.data[j].toNat:Int):=by simp[iH]
   rw[e];generalize (b.data[j]).toNat=z at this ⊢;have e1:IntKind.u8.min=0:=rfl;have e2:IntKind.u8.max=255:=rfl;rw[e1,e2];show(0:Int)<=(z:Int)/\(z:Int)<=255;omega)
  rw[hlen]at q5;refine Does.value (w':=m'.w) (v:=.slice (some ⟨m.w.heap.size,0,none⟩) b.size (grownCap m.w b.size 0 et)) ?_ ⟨m',.av (.own i),rfl,?_,q3,q4,q5⟩
  ·simp[execOp,ho,hx,hrun,q1]
  simp only[aw]at h;rw[<- h,q2,hG]
 ·rename_i h1 h2;split at h
  ·rename_i l hl;have u2:=fp (aj hT h2);obtain⟨et,u1,hck⟩:=aT (aj hT h1);have u3:=iS hck;obtain⟨cs,hv,hrd⟩:=db hi (hG▸hl) hx;obtain⟨ad,cap,rfl,r1,r2,r3⟩:=hrd;simp only[toV,Ty.isAgg,UB,Ll]at hv;have hsz:(mF l).size=l.length:=strOfNums_size l;have key:(convert t u (a.eval x)).run P m.w=.ok (.string (mF l)) m.w:=by
    rw[hv];cases l with
    |nil=>
     cases ad with
     |none=>rw[run_convert_bytes_nil m.w t et u1 u3 _ _ u u2];rfl
     |some ad=>rw[run_convert_bytes_string m.w t u et _ _ _ u1 u3 u2,run_bytesToString m.w ad _ _ [] (by simp[loadCells,loadCellsFrom])];rfl
    |cons n l=>obtain⟨b,off,c,el,fz,rfl,q2,q3,q4,q5⟩:=r3 (by simp);refine run_convert_bytes_arg m.w t et u1 u3 b off _ cap (n::l) rfl (λj hj=>?_) u u2;have:=(q5 j hj).1;simp only[Ty.size,Km]at this;rw[cC q3];have h0:=seg_getElem? c (off+j) 1 0 (by omega);rw[this,JY]at h0;rw[<- h0];simp[List.getD,A1 hj]
   exact aB hi hG (v:=.string (mF l)) (by simp[execOp,ho,key]) (qd (by omega)) h
  simp at h
 ·rename_i b h1 h2 hp;rw[hp]at hx;have hx':=hx;obtain⟨hx,hb⟩:=kb hx;have u1:=fp (aj hT h1);have u2:=fp (aj hT h2);exact aB hi hG (v:=.string b) (sv:=.av (.val .str b)) (by simp[execOp,ho,hx,convert,run_underlying u1,run_underlying u2]) (qd hb) h
 simp at h
end
end Go.Vm

/-
 The machine's operations against the model's: literals of structs and of slices, parts of slices.
-/
namespace Go.Vm
section
variable {P:Program}{C:Ctx}{w0:World}{M:Own}{o:Oper}{a:Act}{m:Mem}{s s':St}
theorem vk(c:Array Value)(o:Nat):aM c o []=c:=by unfold aM;apply LJ;simp
theorem uF (off:Nat):∀(vs:List Value) (j:Nat) (c:Array Value),off+j+vs.length<=c.size ->
  (vs.zipIdx j).foldl (λcs (x:Value×Nat)=>cs.setIfInBounds (off+x.2) x.1) c=aM c (off+j) vs
 |[],j,c,_=>by rw[vk];rfl
 |v::vs,j,c,h=>by
  simp only[B6]at h;simp only[Mh,List.foldl_cons];rw[uF off vs (j+1) _ (by simp;omega)];apply Array.ext_getElem?;intro k;rw[dq _ _ _ (by simp;omega),dq _ _ _ (by simp;omega),Array.getElem?_setIfInBounds];simp only[B6];by_cases h1:off+j=k
  ·subst h1;rw[if_neg (by omega),if_pos rfl,if_pos (by omega),if_pos (by omega)];simp
  by_cases h2:off+j<k/\k<off+j+1+vs.length
  ·rw[if_pos (by omega),if_pos (by omega)];have:k-(off+j)=(k-(off+(j+1)))+1:=by omega
   rw[this];rfl
  rw[if_neg (by omega),if_neg h1,if_neg (by omega)]
theorem uW (off:Nat)(vs c:Array Value)(h:off+vs.size<=c.size) :
  vs.zipIdx.foldl (λcs (x:Value×Nat)=>cs.setIfInBounds (off+x.2) x.1) c=aM c off vs.toList:=by
 rw[<- Array.foldl_toList,Array.toList_zipIdx];exact uF off vs.toList 0 c (by simpa using h)
theorem rQ (place:Nat->Option (Nat×Nat))(cells:Array Value)(i:Nat)(v:Value)(rest:List (Nat×Value)){off size:Nat}(hp:place i=some (off,size))(hs:v.cells.size=size)
  (hb:off+v.cells.size<=cells.size):Instr.fill place cells ((i,v)::rest)=Instr.fill place (aM cells off v.cells.toList) rest:=by
 rw[<- uW off v.cells cells hb];simp only[Instr.fill,hp];rw[if_neg (by simp;omega)]
theorem rL:∀{b:Ty} {r:List Field} {o:Nat},chk P b (some (r,o)) 0=true->∃ places,r.mapM (fun f=>(P.info? f.type).map fun i=>(f.offset,i.size))=some places /\
  ∀ i o' σ,b.field i=some (o',σ)->places[i]?=some (o+o',σ.size)
 |.prod a b,r,o,h=>by
  cases r with
  |nil=>simp[chk]at h
  |cons fd r=>
   simp only[chk,np]at h;obtain⟨⟨h1,h2⟩,h3⟩:=h;obtain⟨places,q1,q2⟩:=rL h3;obtain⟨i,z,r1,r2,_⟩:=dn h2;have h1:=A3 h1;refine⟨(o,a.size)::places,?_,?_⟩
   ·simp only[List.mapM_cons,r1,q1,KB];simp[h1,r2]
   intro j o' σ hf;cases j with
   |zero=>simp[Ty.field]at hf;obtain⟨rfl,rfl⟩:=hf;rfl
   |succ j=>
    simp only[Ty.field]at hf;split at hf
    ·rename_i o1 t1 hb;simp at hf;obtain⟨rfl,rfl⟩:=hf;have:=q2 j o1 t1 hb;simp only[JG];rw[this,JX]
    simp at hf
 |.unit,[],_,_=>⟨[],rfl,by intro i o' σ hf;simp[Ty.field]at hf⟩
 |.unit,_::_,_,h=>by simp[chk]at h
 |.int _,_,_,h=>by simp[chk]at h
 |.bool,_,_,h=>by simp[chk]at h
 |.str,_,_,h=>by simp[chk]at h
 |.slice _,_,_,h=>by simp[chk]at h
 |.arr _ _,_,_,h=>by simp[chk]at h
 |.ptr _,_,_,h=>by simp[chk]at h
 |.clo _ _,_,_,h=>by simp[chk]at h
theorem tY {τ : Ty}{place:Nat->Option (Nat×Nat)}(hp:∀ i o σ,τ.part i=some (o,σ)->place i=some (o,σ.size))(hS:∀ x,RelSV m (a.eval x) (ah C s.env x)) :
  ∀(xs:List (Nat×Operand)) {l c:List Atom} {cells:Array Value},fF τ (xs.map λp=>(p.1,ah C s.env p.2)) l=some c->Rel2 (ai m) cells.toList l->(∀ u∈cells.toList,u.oneCell'=true) ->
  ∃ cells',Instr.fill place cells (xs.map λp=>(p.1,a.eval p.2))=some cells'/\Rel2 (ai m) cells'.toList c/\∀ u∈cells'.toList,u.oneCell'=true
 |[],l,c,cells,h,hr,h1=>by simp[fF]at h;subst h;exact⟨cells,rfl,hr,h1⟩
 |(i,x)::xs,l,c,cells,h,hr,h1=>by
  simp only[JA,fF]at h;split at h
  ·rename_i o t hf;split at h
   ·rename_i cs hc;cases hl:A7 cs.length t.size with
    |false=>rw[hl]at h;simp at h
    |true=>
     rw[hl]at h;simp only[UA]at h;have hl:=A3 hl;split at h
     ·rename_i l' hput;obtain⟨k1,k2⟩:=kZ hc (hS x);obtain⟨e1,e2⟩:=lk hput;have n1:=hr.length;have n2:=k1.length;rw[JD]at n1 n2;simp only[JA];rw[rQ place cells i (a.eval x) _ (hp i o t hf) (by omega) (by omega)];refine tY hp hS xs h ?_ ?_
      ·rw[e1];unfold aM;simp only[JD,n2];exact((hr.take o).append k1).append (hr.drop _)
      intro u hu;unfold aM at hu;simp only[A4]at hu;rcases hu with(hu|hu)|hu
      ·exact h1 u (JV hu)
      ·exact k2 u hu
      exact h1 u (J3 hu)
     simp at h
   simp at h
  simp at h
theorem Bp {t:TypeId}{parts:Array (Nat×Operand)}(hT:cb P C.tab=true)(hi:Inv C w0 M m)(hG:m.G=s.G)(hS:∀ x,RelSV m (a.eval x) (ah C s.env x))(ho:o.op=.build t parts)
  (h:aZ C o s some=some s'):Does P o a m.w (Res C w0 M m s s' o.dst):=by
 simp only[au,aK,ho]at h;split at h
 ·rename_i τ ht;cases hst:τ.isAgg with
  |false=>rw[hst]at h;simp at h
  |true=>
   have hck:=aj hT ht (yK hst);rw[hst]at h;simp only[UA]at h;split at h
   ·rename_i c hc;obtain⟨inf,z,r1,r2,r3,r4,r5,r6,r7⟩:=dn hck;obtain⟨c0,e0,_,hr0,hz⟩:=fy r5;rw[Jz]at e0;have key:∃ place:Nat->Option (Nat×Nat),(∀ parts,P.built t parts=Instr.fill place z.cells parts)/\∀ i o' σ,τ.part i=some (o',σ)->place i=some (o',σ.size):=by
     cases τ with
     |prod p q=>
      simp only[chk,np]at hck;obtain⟨_,hck⟩:=hck;split at hck
      ·rename_i fs hu;split at hck
       ·rename_i fd r hfs;simp only[np]at hck;obtain⟨⟨h1,h2⟩,h3⟩:=hck;have hx:chk P (.prod p q) (some (fs.toList,0)) 0=true:=by rw[hfs];simp only[chk,np,JP];exact⟨⟨h1,h2⟩,h3⟩
        obtain⟨places,q1,q2⟩:=rL hx;refine⟨λi=>places.toArray[i]?,λparts=>by simp only[Program.built,r1,hu,r4,q1],λi o' σ hf=>?_⟩;have:=q2 i o' σ hf;rw[JP]at this;simpa using this
       simp at hck
      simp at hck
     |unit=>
      simp only[chk,np]at hck;obtain⟨_,hck⟩:=hck;split at hck
      ·rename_i fs hu;split at hck
       ·rename_i hfs;refine⟨λi=>(([]:List (Nat×Nat)).toArray)[i]?,λparts=>?_,by intro i o' σ hf;simp[Ty.part,Ty.field]at hf⟩;have q1:fs.toList.mapM (λf=>(P.info? f.type).map λi=>(f.offset,i.size))=some []:=by rw[hfs];rfl
        simp only[Program.built,r1,hu,r4,q1]
       simp at hck
      simp at hck
     |arr n e=>obtain⟨et,hu,he⟩:=kL hck;obtain⟨ie,ze,s1,s2,_⟩:=dn he;refine⟨λi=>some (i*ie.size,ie.size),λparts=>by simp only[Program.built,r1,hu,r4,s1],λi o' σ hf=>?_⟩;simp only[Ty.part,aw,B3]at hf;obtain⟨rfl,rfl⟩:=hf;simp only[s2]
     |_=>simp[Ty.isAgg]at hst
    obtain⟨place,hbl,hfl⟩:=key;obtain⟨cells',f1,f2,f3⟩:=tY (place:=place) hfl hS parts.toList hc (cells:=z.cells) (by rw[e0];exact hz m) (by rw[e0];exact hr0);have hb:P.built t (parts.map λp=>(p.1,a.eval p.2)).toList=some cells':=by rw[hbl,LB];exact f1
    have hrun:=run_build m.w t _ cells' hb;refine aB hi hG (v:=.agg cells') (sv:=.agg c) ?_ ⟨cells'.toList,by simp,f3,f2⟩ h;simp[execOp,ho,hrun]
   simp at h
 simp at h
theorem qs {size:Nat}:∀(xs:List Operand) (k:Nat) (cells:Array Value),(∀ x∈xs,(a.eval x).cells.size=size)->(k+xs.length) * size<=cells.size ->
  ∃ cells',Instr.fill (λi=>some (i*size,size)) cells ((xs.zipIdx k).map λp=>(p.2,a.eval p.1))=some cells'/\cells'.size=cells.size /\
   (∀ j x,xs[j]?=some x->seg cells' ((k+j)*size) size=(a.eval x).cells.toList)/\∀ j,j<k->seg cells' (j*size) size=seg cells (j*size) size
 |[],k,cells,_,_=>⟨cells,rfl,rfl,by intro j x h;simp at h,λ_ _=>rfl⟩
 |x::xs,k,cells,h1,h2=>by
  simp only[B6]at h2;have hx:(a.eval x).cells.size=size:=h1 x (by simp);have hle:(k+1)*size<=(k+(xs.length+1))*size:=B1 _ (by omega);have hle':(k+1)*size=k*size+size:=by rw[B8];omega
  have hb:k*size+(a.eval x).cells.size<=cells.size:=by omega
  have hb':k*size+(a.eval x).cells.toList.length<=cells.size:=by simpa using hb
  have hss:=bw cells (k*size) _ hb';obtain⟨cells',q1,q2,q3,q4⟩:=qs xs (k+1) (aM cells (k*size) (a.eval x).cells.toList) (λy hy=>h1 y (by simp[hy])) (by rw[hss,show k+1+xs.length=k+(xs.length+1) by omega];exact h2);refine⟨cells',?_,q2.trans hss,?_,?_⟩
  ·simp only[Mh,JA];rw[rQ _ cells k (a.eval x) _ rfl hx hb];exact q1
  ·intro j y hj;cases j with
   |zero=>simp at hj;subst hj;rw[JY,q4 k (by omega)];have:=ko cells (k*size) _ hb';rw[JD,hx]at this;exact this
   |succ j=>have:=q3 j y (by simpa using hj);rw[show k+(j+1)=k+1+j by omega];exact this
  intro j hj;rw[q4 j (by omega)];have:(j+1)*size<=k*size:=B1 _ hj;rw[B8]at this;exact ca cells (k*size) _ hb' (j*size) size (.inl (by omega))
theorem mN{G:Heap}{e:Ty}:∀{vs:List SV} {l:List e.den},jf G e vs=some l->l.length=vs.length/\∀ i (h:i<l.length),∃ v,vs[i]?=some v/\aR G e v=some l[i]
 |[],l,h=>by simp[jf]at h;subst h;exact⟨rfl,by intro i hi;simp at hi⟩
 |v::vs,l,h=>by
  simp only[jf]at h;split at h
  ·rename_i x hx;split at h
   ·rename_i y hy;simp at h;subst h;obtain⟨h1,h2⟩:=mN hy;refine⟨by simp[h1],λi hi=>?_⟩;cases i with
    |zero=>exact⟨v,rfl,hx⟩
    |succ i=>obtain⟨u,q1,q2⟩:=h2 i (by simpa using hi);exact⟨u,by simpa using q1,by simpa using q2⟩
   simp at h
  simp at h
theorem qb {t et:TypeId}{e:Ty}{n:Nat}{parts:Array (Nat×Operand)}(hu:P.underlying t=some (.slice et))(hck:chk P e none et=true)(hn:n=parts.size)(hlim:n * e.size<=16777216)
  (hall:(parts.toList.zipIdx.all λp=>A7 p.1.1 p.2)=true) (hcell:∀ x∈parts.toList.map (·.2),(a.eval x).cells.size=e.size) :
  ∃ cells:Array Value,cells.size=n*e.size/\(∀ j x,(parts.toList.map (·.2))[j]?=some x->seg cells (j*e.size) e.size=(a.eval x).cells.toList) /\
   ∀ w:World,(Instr.buildSlice t n (parts.map λp=>(p.1,a.eval p.2))).run P w=.ok (.slice (some ⟨w.heap.size,0,none⟩) n n) (w.alloc (.cells cells et)):=by
 obtain⟨xs,hxs⟩:∃ xs,xs=parts.toList.map (·.2):=⟨_,rfl⟩;rw[<- hxs]at hcell ⊢;have hplen:xs.length=n:=by rw[hxs];simp[hn]
 have hparts:parts.toList=xs.zipIdx.map λp=>(p.2,p.1):=by
  rw[hxs];apply Kk;intro k;simp only[KS,LW,JP];cases hk:parts.toList[k]? with
  |none=>rfl
  |some p=>
   have:(p,k)∈parts.toList.zipIdx:=by rw[J7];exact⟨k,by simp[LW,hk]⟩
   have:=A3 (List.all_eq_true.1 hall _ this);simp only at this;simp[<- this]
 obtain⟨inf,z,r1,r2,r3,r4,r5,r6,r7⟩:=dn hck;obtain⟨zc,hzc⟩:∃ zc,zc=(if n*e.size=0 then #[]else z.cells):=⟨_,rfl⟩;obtain⟨cells,f1,f2,f3,_⟩:=qs (a:=a) (size:=e.size) xs 0 ((Kb (n*e.size)).map (zc[· % zc.size]!)) hcell (by simp[hplen]);refine⟨cells,by rw[f2];simp,λj x hx=>by have:=f3 j x hx;rwa[JP]at this,λw=>?_⟩;have hs:=bt hck w;have hl:¬n*e.size>2^24:=by omega
 have hf:Instr.fill (λi=>some (i*e.size,e.size)) ((Kb (n*e.size)).map (zc[· % zc.size]!)) (parts.map λp=>(p.1,a.eval p.2)).toList=some cells:=by rw[LB,hparts,ME];exact f1
 by_cases hz:n*e.size=0
 ·rw[if_pos hz]at hzc;subst hzc;simp only[Instr.buildSlice,Sem.run_bind,run_underlying hu,Result.andThen_ok,hs,hz,if_neg (show ¬0>2^24 by omega),if_true,Sem.run_pure];rw[hz]at hf;rw[hf];simp[newRow]
 rw[if_neg hz]at hzc;subst hzc;simp only[Instr.buildSlice,Sem.run_bind,run_underlying hu,Result.andThen_ok,hs,if_neg hl,hz,if_false,Sem.run_pure,zeroValue,typeInfo,run_program,r1,r4];rw[hf];simp[newRow]
theorem m7 (hi:Inv C w0 M m){σ : Ty}:∀{vs:List SV} {us:List Value} {p:List (List σ.den)×List Nat},gQ m.G σ vs=some p->Rel2 (RelSV m) us vs ->
  p.1.length=us.length/\(∀ i (h:i<p.1.length) u,us[i]?=some u->HdrW m.w m.F u σ p.1[i])/\(∀ id∈p.2,∃ l,m.G.get id=some (.arr σ l)) /\
   (∀ u∈us,∀ b,HB u b->∃ id,id∈p.2/\∃ o,m.G.get id=some o/\isObj o=true/\HB (m.ι id) b)/\(aH p.2=true->cm us)
 |[],[],p,h,_=>by simp only[gQ,aw]at h;subst h;exact⟨rfl,by intro i hi;simp at hi,by simp,by simp,λ_=>KH⟩
 |[],_::_,_,_,h=>h.elim
 |_::_,[],_,_,h=>h.elim
 |v::vs,u::us,p,h,hr=>by
  simp only[gQ]at h;split at h
  ·rename_i x hx;split at h
   ·rename_i q hq;simp only[aw]at h;subst h;obtain⟨k1,k2⟩:=oy hi hx hr.1;obtain⟨i1,i2,i3,i4,i5⟩:=m7 hi hq hr.2;have hub:∀ b,HB u b->∃ id,x.2=[id]/\m.G.get id=some (.arr σ x.1)/\HB (m.ι id) b:=by
     intro b hb;rcases k2 with⟨_,e⟩|⟨id,e1,e2,e3⟩
     ·exact absurd hb (e b)
     exact⟨id,e1,e2,e3▸hb⟩
    refine⟨by simp[i1],λi hi' u' hu'=>?_,λid hid=>?_,λu' hu' b hb=>?_,λhn=>?_⟩
    ·cases i with
     |zero=>simp only[Ju,aw]at hu';subst hu';exact k1
     |succ i=>exact i2 i (by simpa using hi') u' (by simpa using hu')
    ·rcases A4.1 hid with hid|hid
     ·rcases k2 with⟨e,_⟩|⟨id',e1,e2,_⟩
      ·rw[e]at hid;simp at hid
      rw[e1]at hid;simp at hid;subst hid;exact⟨_,e2⟩
     exact i3 id hid
    ·rcases A8.1 hu' with rfl|hu'
     ·obtain⟨id,e1,e2,e3⟩:=hub b hb;exact⟨id,by rw[e1];simp,_,e2,rfl,e3⟩
     obtain⟨id,e1,e2⟩:=i4 u' hu' b hb;exact⟨id,by simp[e1],e2⟩
    obtain⟨n1,n2,n3⟩:=aU hn;refine K4 (λu' hu' b hb hb'=>?_) (i5 n2);obtain⟨id,e1,e2,e3⟩:=hub b hb;obtain⟨id',e4,o,e5,e6,e7⟩:=i4 u' hu' b hb';have:=hi.inj id id' _ o b e2 rfl e5 e6 e3 e7;subst this;exact n3 id (by rw[e1];simp) e4
   simp at h
  simp at h
theorem sX {t et:TypeId}{n:Nat}{parts:Array (Nat×Operand)}{σ : Ty}{p:List (List σ.den)×List Nat}(hi:Inv C w0 M m)(hG:m.G=s.G)(hS:∀ x,RelSV m (a.eval x) (ah C s.env x))(ho:o.op=.buildSlice t n parts)
  (hu:P.underlying t=some (.slice et)) (hck:chk P (.slice σ) none et=true) (hn:n=parts.size) (hn2:n<=16777216) (hlim:n*(Ty.slice σ).size<=16777216) (hall:(parts.toList.zipIdx.all λp=>A7 p.1.1 p.2)=true)
  (hp:gQ s.G σ (parts.toList.map λp=>ah C s.env p.2)=some p) (hnd:aH p.2=true)
  (h:bj { env:=s.env,G:=aq p.2 s.G } (o.dst.getD 0) (.deep 0 σ p.1 none) (λi s2=>some (ag o.dst (.av (.ownd i)) s2))=some s'):Does P o a m.w (Res C w0 M m s s' o.dst):=by
 obtain⟨i,hfree,h⟩:=bM h;simp only[aw]at h;rw[<- hG]at hp;have hrel:Rel2 (RelSV m) (parts.toList.map λp=>a.eval p.2) (parts.toList.map λp=>ah C s.env p.2):=by
  generalize parts.toList=l;induction l with
  |nil=>trivial
  |cons q l ih=>exact⟨hS q.2,ih⟩
 obtain⟨k1,k2,k3,k4,k5⟩:=m7 hi hp hrel;have k5:=k5 hnd;have hone:∀ x∈parts.toList.map (·.2),(a.eval x).cells=#[a.eval x]:=by
  intro x hx;obtain⟨j,hj⟩:=J7.1 hx;simp only[KS,Kl]at hj;obtain⟨q,hq,rfl⟩:=hj;have hjl:j<p.1.length:=by rw[k1];simpa using(A2.1 hq).1
  exact lE (bA (k2 j hjl (a.eval q.2) (by simp[hq])))
 obtain⟨cells,c1,c2,c3⟩:=qb (a:=a) (e:=.slice σ) hu hck hn hlim hall (λx hx=>by rw[hone x hx];rfl);obtain⟨d1,d2,d3,d4⟩:=jT p.2 hi (λid hid=>by obtain⟨l,hl⟩:=k3 id hid;exact⟨_,hl⟩);have hplen:p.1.length=n:=by rw[k1,hn];simp
 obtain⟨m',q1,q2,q3,q4,q5⟩:=qz (m:=⟨m.w,m.F,m.ι,aq p.2 m.G⟩) (τ:=σ) (l:=p.1) (hs:=parts.toList.map λp=>a.eval p.2) (cap:=n) (fz:=(0,0)) d1 (i:=i) (by show(aq p.2 m.G).get i=none;rw[hG];exact hfree)
  (w1:=m.w.alloc (.cells cells et)) (eI m.w _) (c:=cells) (el:=et) (b0 m.w _) (.inl (B2 _)) (by omega) (by unfold maxLen;omega) (by rw[c1];simp[Ty.size]) k1.symm (λk hk=>by
   have hk':k<parts.toList.length:=by rw[k1]at hk;simpa using hk
   have e1:=c2 k parts.toList[k].2 (by simp[A1 hk']);simp only[Ty.size,Km]at e1;have e2:=seg_getElem? cells k 1 0 (by omega);rw[e1,hone _ (List.mem_map.2 ⟨_,List.getElem_mem hk',rfl⟩),JY]at e2;rw[<- e2];simp[A1 hk']) k2 k5 (λv hv b hb=>by
    obtain⟨id,e1,ob,e2,e3,e4⟩:=k4 v hv b hb;exact d4 id e1 ob e2 e3 b e4)
 refine Does.value (w':=m'.w) (v:=.slice (some ⟨m.w.heap.size,0,none⟩) n n) ?_ ⟨m',.av (.ownd i),rfl,?_,q3,d2.trans q4,by rw[hplen]at q5;exact q5⟩
 ·simp[execOp,ho,c3,q1]
 rw[<- h,q2,hG]
theorem qG {t:TypeId}{n:Nat}{parts:Array (Nat×Operand)}(hT:cb P C.tab=true)(hi:Inv C w0 M m)(hG:m.G=s.G)(hS:∀ x,RelSV m (a.eval x) (ah C s.env x))(ho:o.op=.buildSlice t n parts)
  (h:aZ C o s some=some s'):Does P o a m.w (Res C w0 M m s s' o.dst):=by
 simp only[au,aK,ho]at h;split at h
 ·rename_i e ht;obtain⟨et,hu,hck⟩:=aT (aj hT ht);cases hc:(A7 n parts.size&&JK n 16777216&&JK (n*e.size) 16777216&&(parts.toList.zipIdx.all λp=>A7 p.1.1 p.2))with
  |false=>rw[hc]at h;simp at h
  |true=>
   rw[hc]at h;simp only[UA]at h;simp only[np]at hc;obtain⟨⟨⟨hn,hn2⟩,hlim⟩,hall⟩:=hc;have hn2:=JF hn2;have hn:=A3 hn;have hlim:=JF hlim;cases hd:(C.deep.any λd=>A7 d (o.dst.getD 0))with
   |true=>
    rw[hd]at h;simp only[UA]at h;split at h
    ·rename_i σ _;split at h
     ·rename_i p hp;cases hnd:aH p.2 with
      |false=>rw[hnd]at h;simp at h
      |true=>rw[hnd]at h;exact sX hi hG hS ho hu hck hn hn2 hlim hall hp hnd h
     simp at h
    simp at h
   |false=>
    rw[hd]at h;simp only[UB]at h;split at h
    ·rename_i l hl;obtain⟨i,hfree,h⟩:=bM h;obtain⟨m1,a1,a2,a3,a4,a5,a6⟩:=cE (parts.toList.flatMap λp=>cP s.G (ah C s.env p.2)) hi;obtain⟨hl1,hl2⟩:=mN hl;have hval:∀ j (hj:j<l.length),∃ x,(parts.toList.map (·.2))[j]?=some x/\Rd m1.w m1.F e (a.eval x).cells.toList l[j]:=by
      intro j hj;obtain⟨v,v1,v2⟩:=hl2 j hj;simp only[KS,Kl]at v1;obtain⟨p,p1,rfl⟩:=v1;refine⟨p.2,by simp[p1],?_⟩;obtain⟨cs,c1,c2⟩:=db hi (hG▸v2) (hS p.2);rw[c1,lJ c2];have:Rd m1.w m1.F e cs l[j]:=by refine c2.mono (λb hb=>⟨a6 b ?_,by rw[a1]⟩);refine Thru.mono ?_ hb;intro k hk;rw[List.mem_flatMap];exact⟨p,Jv p1,hG▸hk⟩
      simpa using this
     have hcell:∀ x∈parts.toList.map (·.2),(a.eval x).cells.size=e.size:=by
      intro x hx;obtain⟨j,hj⟩:=J7.1 hx;have hjl:j<l.length:=by have:=(A2.1 hj).1;rw[hl1];simpa using this
      obtain⟨y,y1,y2⟩:=hval j hjl;rw[hj]at y1;simp only[aw]at y1;subst y1;have:=y2.len;simpa using this
     have hllen:l.length=n:=by rw[hl1];simp[hn]
     obtain⟨cells,f2',f3,hrun⟩:=qb (a:=a) hu hck hn hlim hall hcell;obtain⟨m',q1,q2,q3,q4,q5⟩:=lz (τ:=e) (l:=l) (cap:=n) (fz:=(0,0)) a4 (i:=i) (by rw[a3,hG];exact hfree) (w1:=m1.w.alloc (.cells cells et)) (eI m1.w _) (c:=cells) (el:=et) (b0 m1.w _) (.inl (B2 _)) (by omega)
      (by unfold maxLen;omega) (by omega) (λj hj=>by
       obtain⟨x,x1,x2⟩:=hval j hj;rw[f3 j x x1];exact x2)
     refine Does.value (w':=m'.w) (v:=.slice (some ⟨m.w.heap.size,0,none⟩) n n) ?_ ⟨m',.av (.own i),rfl,?_,q3,a5.trans q4,by rw[hllen,a1]at q5;exact q5⟩
     ·simp[execOp,ho,hrun,q1,a1]
     simp only[aw]at h;rw[<- h,q2,a3,hG]
    simp at h
 simp at h
end
end Go.Vm

/-
 The machine's operations against the model's: parts of slices.
-/
namespace Go.Vm
section
variable {P:Program}{C:Ctx}{w0:World}{M:Own}{o:Oper}{a:Act}{m:Mem}{s s':St}
def fP(x:Option Value)(d i:Int):Prop:=(x=none/\i=d)\/∃ k,x=some (.int k i)
theorem yY {R:Type}{d:Int}{x:Option Operand}{K:Int->Option R}{r:R}(hS:∀ x,RelSV m (a.eval x) (ah C s.env x))(h:vo C s.env d x K=some r) :
  ∃ i,K i=some r/\fP (x.map a.eval) d i:=by
 cases x with
 |none=>exact⟨d,h,.inl ⟨rfl,rfl⟩⟩
 |some x=>simp only[vo]at h;obtain⟨k,i,h1,h2⟩:=fW h;have hx:=hS x;rw[h1]at hx;exact⟨i,h2,.inr ⟨k,by simp[(cF hx).1]⟩⟩
theorem qB (sl:Bool)(len cap:Nat){low high:Option Value}{l h:Int}(hl:fP low 0 l)(hh:fP high len h)(h1:0<=l)(h2:l<=h)(h3:h<=len)(h4:len<=cap)(w:World) :
  (Instr.sliceBounds sl len cap low high none).run P w=.ok (l.toNat,h.toNat,cap) w:=by
 have e1:(0:Int)<=h/\h<=cap:=by omega
 have e2:(0:Int)<=l/\l<=(h.toNat:Int):=by omega
 rcases hh with⟨rfl,rfl⟩|⟨k,rfl⟩<;>rcases hl with⟨rfl,rfl⟩|⟨k',rfl⟩
 ·simp[Instr.sliceBounds]
 ·have e3:(0:Int)<=l/\l<=(len:Int):=by omega
  simp[Instr.sliceBounds,Instr.sliceBound,asIntOf,e3]
 ·simp[Instr.sliceBounds,Instr.sliceBound,asIntOf,e1]
 simp only[Instr.sliceBounds,Instr.sliceBound,asIntOf,Sem.run_bind,Sem.run_pure,Result.andThen_ok,if_pos e1,if_pos e2]
theorem mv{n:Nat}{lo hi:Int}{p:Nat×Nat}(h:dF n lo hi=some p):0<=lo/\lo<=hi/\hi<=n/\p=(lo.toNat,hi.toNat-lo.toNat):=by
 unfold dF at h;split at h
 ·simp at h;rename_i hc;exact⟨hc.1,hc.2.1,hc.2.2,h.symm⟩
 simp at h
theorem dI {t et:TypeId}{e:Ty}(hu:P.underlying t=some (.slice et))(hck:chk P e none et=true)(ad:Option Addr)(len cap:Nat){low high:Option Value}{l h:Int}
  (hl:fP low 0 l) (hh:fP high len h) (h1:0<=l) (h2:l<=h) (h3:h<=len) (h4:len<=cap) (w:World) :
  (Instr.sliceAt t (.slice ad len cap) low high none).run P w=.ok (.slice (if cap=l.toNat then ad else ad.map (·.add (l.toNat*e.size))) (h.toNat-l.toNat) (cap-l.toNat)) w:=by
 simp[Instr.sliceAt,Instr.slice,run_underlying hu,qB (P:=P) true len cap hl hh h1 h2 h3 h4,bt hck]
theorem oT {t:TypeId}(hu:P.underlying t=some .string)(b:ByteArray){low high:Option Value}{l h:Int}
  (hl:fP low 0 l) (hh:fP high b.size h) (h1:0<=l) (h2:l<=h) (h3:h<=b.size) (w:World) :
  (Instr.sliceAt t (.string b) low high none).run P w=.ok (.string (b.extract l.toNat h.toNat)) w:=by
 simp[Instr.sliceAt,Instr.slice,run_underlying hu,qB (P:=P) false b.size b.size hl hh h1 h2 h3 (B2 _)]
theorem pm{size len cap:Nat}{ad:Option Addr}{lo n:Nat}:qE (.slice ad len cap) size lo n (.slice (if cap=lo then ad else ad.map (·.add (lo*size))) n (cap-lo)):=by refine⟨ad,len,cap,_,rfl,rfl,λh=>?_⟩;rw[if_neg h]
theorem sV {v:Value}{size off len lo n cap:Nat}{ad:Option Addr}(had:∀ a,ad=some a->∃ b o,a=⟨b,o,none⟩){v0:Value}(l0:Nat)(h0:v0=.slice ad l0 cap)(hle:off+len<=cap)(hlo:lo<=len)
  {u:Value} (h1:qE v0 size off len u) (a':Option Addr) (cap':Nat) (hu:u=.slice a' len cap') :
  qE v0 size (off+lo) n (.slice (if cap'=lo then a' else a'.map (·.add (lo*size))) n (cap'-lo)):=by
 subst h0;obtain⟨ad1,n1,cap1,ad2,e1,e2,e3⟩:=h1;simp only[Value.slice.injEq]at e1;obtain⟨rfl,rfl,rfl⟩:=e1;rw[hu]at e2;simp only[Value.slice.injEq]at e2;obtain⟨rfl,_,rfl⟩:=e2;refine⟨ad,l0,cap,_,rfl,by rw[Nat.sub_sub],λh=>?_⟩;rw[if_neg (by omega),e3 (by omega)];cases ad with
 |none=>rfl
 |some x=>obtain⟨b,o,rfl⟩:=had x rfl;simp only[KB,bK];rw[B8,JX]
theorem qQ{α:Type}(l:List α)(i j:Nat)(h:i<=j):(l.take j).drop i=(l.drop i).take (j-i):=by rw[K3]
theorem gN {t:TypeId}{x:Operand}{lo hi':Option Operand}{v r:Value}{w:World}(ho:o.op=.slice t x lo hi' none)(hx:a.eval x=v)
  (h:(Instr.sliceAt t v (lo.map a.eval) (hi'.map a.eval) none).run P w=.ok r w):(execOp a.eval o).run P w=.ok (.value r) w:=by
 simp only[execOp,ho,hx,Option.map_none];simp[h]
theorem Ak {t:TypeId}{x:Operand}{v:SV}(hv:ah C s.env x=v){lo hi':Option Operand}{l:Int}{h0:Option Int}(hT:cb P C.tab=true)(hi:Inv C w0 M m)(hG:m.G=s.G)
  (hx:RelSV m (a.eval x) v) (ho:o.op=.slice t x lo hi' none) (hl:fP (lo.map a.eval) 0 l) (hh:∀ d:Nat,fP (hi'.map a.eval) d (h0.getD d)) (hty:eV C t s.G v=true)
  (h:dJ s v l h0 none (λv=>some (ag o.dst v s))=some s'):Does P o a m.w (Res C w0 M m s s' o.dst):=by
 unfold dJ at h;split at h
 ·rename_i b hq;obtain⟨hx,hb⟩:=kb hx;unfold eV at hty;split at hty<;>try (simp_all;done)
  rename_i ht _;have hu:=fp (aj hT ht);obtain⟨r,hr,h⟩:=A6.1 h;unfold Du at hr;split at hr
  ·rename_i hc;simp only[aw]at hr;subst hr;obtain⟨c1,c2,c3⟩:=hc;have hrun:=oT (P:=P) hu b hl (hh _) c1 c2 c3 m.w;refine aB hi hG (gN ho hx hrun) (qd ?_) h;rw[ByteArray.size_extract];omega
  simp at hr
 ·rename_i e xs hq;obtain⟨ad,cap,hx,r1,r2,r3⟩:=gy hx;unfold eV at hty;split at hty<;>try (simp_all;done)
  rename_i e1 e2 xs2 ht hq2;simp only[SV.av.injEq,Atom.val.injEq,Ty.slice.injEq]at hq2;obtain⟨rfl,hq2⟩:=hq2;have hty:=of_decide_eq_true hty;subst hty;obtain⟨et,hu,hck⟩:=aT (aj hT ht);obtain⟨r,hr,h⟩:=A6.1 h;unfold iO at hr;split at hr
  ·rename_i hc;simp only[aw]at hr;subst hr;obtain⟨c1,c2,c3⟩:=hc;have hrun:=dI (P:=P) hu hck ad xs.length cap hl (hh _) c1 c2 c3 r1 m.w;refine aB hi hG (gN ho hx hrun) ?_ h;have:=yq (w:=m.w) (F:=m.F) (τ:=e1) (l:=xs) (v:=.slice ad xs.length cap) ⟨ad,cap,rfl,r1,r2,r3⟩ (off:=l.toNat) (len:=(h0.getD xs.length).toNat-l.toNat) (by omega) pm;rw[qQ _ _ _ (by omega)];exact⟨[_],rfl,this⟩
  simp at hr
 ·rename_i hq;simp at hq
 ·obtain⟨ad,hx⟩:=hx;unfold eV at hty;split at hty<;>try (simp_all;done)
  rename_i e1 ht _;obtain⟨et,hu,hck⟩:=aT (aj hT ht);split at h
  ·rename_i hc;obtain⟨rfl,hc⟩:=hc;have hb:fP (hi'.map a.eval) ((0:Nat):Int) 0:=by have:=hh 0;rw[show h0.getD ((0:Nat):Int)=0 from hc]at this;exact this
   have hrun:=dI (P:=P) hu hck ad 0 0 hl hb (by omega) (by omega) (by omega) (by omega) m.w;exact aB hi hG (v:=.slice ad 0 0) (sv:=.av (.nils _)) (gN ho hx.1 hrun) ⟨ad,rfl,hx.2⟩ h
  simp at h
 ·rename_i id hq;obtain⟨_,ob,hob,hxv⟩:=hx;rw[hG]at hob;split at h
  ·rename_i e xs hg;rw[hg]at hob;simp only[aw]at hob;subst hob;have hxw:=hxv rfl;obtain⟨ad,cap,r1,r2,r3,r4⟩:=hi.objs id _ (hG▸hg);unfold eV at hty;split at hty<;>try (simp_all;done)
   rename_i e1 id2 ht hq2;simp only[SV.av.injEq,Atom.own.injEq]at hq2;subst hq2;rw[hg]at hty;have hty:=of_decide_eq_true hty;subst hty;obtain⟨et,hu,hck⟩:=aT (aj hT ht);obtain⟨p,hp,h⟩:=A6.1 h;obtain⟨c1,c2,c3,rfl⟩:=mv hp;rw[r1]at hxw;have hrun:=dI (P:=P) hu hck ad xs.length cap hl (hh _) c1 c2 c3 r2 m.w;refine aB hi hG (gN ho hxw hrun) ?_ h;refine(ao (m:=m) (a:=.view id _ _) (by intros;simp)).2 ⟨rfl,.arr e1 xs,hG▸hg,?_,?_⟩
   ·simp only;omega
   rw[r1];exact pm
  simp at h
 ·rename_i id off len hq;obtain⟨_,ob,hob,hxv⟩:=hx;rw[hG]at hob;unfold eV at hty;split at hty<;>try (simp_all;done)
  rename_i e1 id2 o2 n2 ht hq2;simp only[SV.av.injEq,Atom.view.injEq]at hq2;obtain⟨rfl,rfl,rfl⟩:=hq2;split at hty
  ·rename_i e xs hg;rw[hg]at hob;simp only[aw]at hob;subst hob;have hty:=of_decide_eq_true hty;subst hty;obtain⟨et,hu,hck⟩:=aT (aj hT ht);obtain⟨ad,cap,r1,r2,r3,r4⟩:=hi.objs id _ (hG▸hg);simp only at hxv;obtain⟨hle,hview⟩:=hxv;obtain⟨p,hp,h⟩:=A6.1 h;obtain⟨c1,c2,c3,rfl⟩:=mv hp;have hv0:=hview;obtain⟨ad1,n1,cap1,ad2,k1,k2,k3⟩:=hview;rw[r1]at k1;simp only[Value.slice.injEq]at k1;obtain⟨rfl,rfl,rfl⟩:=k1;have hrun:=dI (P:=P) hu hck ad2 len (cap-off) hl (hh _) c1 c2 c3 (by omega) m.w;refine aB hi hG (gN ho k2 hrun) ?_ h;refine(ao (m:=m) (a:=.view id _ _) (by intros;simp)).2 ⟨rfl,.arr e1 xs,hG▸hg,?_,?_⟩
   ·simp only;omega
   rw[r1];by_cases hc0:cap=0
   ·subst hc0;have:off=0:=by omega
    subst this;have hl0:len=0:=by omega
    refine⟨ad,xs.length,0,_,rfl,by rw[show 0-0-l.toNat=0-(0+l.toNat)from by omega],λh=>absurd h (by simp only;omega)⟩
   refine sV (v:=a.eval x) (ad:=ad) ?_ xs.length rfl (by omega) (by omega) (r1▸hv0) ad2 (cap-off) k2;intro ad' had;obtain⟨b,off',_,_,_,q1,_⟩:=r4 hc0;rw[q1]at had;simp only[aw]at had;exact⟨b,off',had.symm⟩
  simp at hty
 ·rename_i hq;cases hq
 simp at h
theorem Be {t:TypeId}{x:Operand}{lo hi' mx:Option Operand}(hT:cb P C.tab=true)(hi:Inv C w0 M m)(hG:m.G=s.G)(hS:∀ x,RelSV m (a.eval x) (ah C s.env x))(ho:o.op=.slice t x lo hi' mx)
  (h:aZ C o s some=some s'):Does P o a m.w (Res C w0 M m s s' o.dst):=by
 simp only[au,aK,ho]at h;have hx:=hS x;obtain⟨l,h,hl⟩:=yY hS h;cases hty:eV C t s.G (ah C s.env x)with
 |false=>rw[hty]at h;simp at h
 |true=>
  rw[hty]at h;simp only[Bool.not_true,UB]at h;cases hi' with
  |none=>cases mx with
   |none=>exact Ak rfl (h0:=none) hT hi hG hx ho hl (λd=>.inl ⟨rfl,rfl⟩) hty h
   |some _=>simp at h
  |some hx'=>cases mx with
   |none=>
   obtain⟨k,i,h1,h2⟩:=fW h;have hh:=hS hx';rw[h1]at hh;exact Ak rfl (h0:=some i) hT hi hG hx ho hl (λd=>.inr ⟨k,by simp[(cF hh).1]⟩) hty h2
   |some mx'=>
   obtain⟨k,i,h1,h2⟩:=fW h;obtain⟨k',i',h3,h4⟩:=fW h2;have hh:=hS hx';rw[h1]at hh;have hm:=hS mx';rw[h3]at hm;have hh:=(cF hh).1;have hm:=(cF hm).1;generalize ah C s.env x=v at h4 hx hty;unfold dJ at h4;split at h4<;>try (cases ‹some _=none›;done)
   ·rename_i e xs he;simp only[aw]at he;subst he;split at h4
    ·rename_i hc;obtain⟨rfl,hc⟩:=hc;simp only[aw]at hc;subst hc;obtain⟨ad,cap,hxv,r1,r2,r3⟩:=gy hx;unfold eV at hty;split at hty<;>try (simp_all;done)
     rename_i e1 e2 xs2 ht hq2;obtain⟨et,hu,hck⟩:=aT (aj hT ht);have hs:=bt hck m.w;refine aB hi hG (v:=.slice ad 0 0) (sv:=.av (.nils false)) ?_ ⟨ad,rfl,by simp⟩ h4;rcases hl with⟨hl,_⟩|⟨k2,hl⟩
     ·simp[execOp,ho,hxv,hl,hh,hm,Instr.sliceAt,Instr.slice,run_underlying hu,Instr.sliceBounds,Instr.sliceBound,asIntOf,hs]
     simp[execOp,ho,hxv,hl,hh,hm,Instr.sliceAt,Instr.slice,run_underlying hu,Instr.sliceBounds,Instr.sliceBound,asIntOf,hs]
    simp at h4
   ·rename_i id mx2 he;simp only[aw]at he;subst he;obtain⟨_,ob,hob,hxv⟩:=hx;rw[hG]at hob;split at h4
    ·rename_i e xs hg;rw[hg]at hob;simp only[aw]at hob;subst hob;have hxw:=hxv rfl;unfold eV at hty;split at hty<;>try (simp_all;done)
     rename_i e1 id2 ht hq2;simp only[SV.av.injEq,Atom.own.injEq]at hq2;subst hq2;rw[hg]at hty;have hty:=of_decide_eq_true hty;subst hty;obtain⟨et,hu,hck⟩:=aT (aj hT ht);obtain⟨p,hp,h4⟩:=A6.1 h4;obtain⟨c1,c2,c3,rfl⟩:=mv hp;split at h4
     ·rename_i hc;obtain⟨hc1,hc2⟩:=hc;simp only[aw]at hc1;subst hc1;obtain⟨b,off,cap,c,el,fz,r1,r2,r3,r4,r5,r6,r7,r8,r9⟩:=mp hi (hG▸hg) (j:=l.toNat) (by omega);obtain⟨ad',cap',u1,u2,_,_⟩:=hi.objs id _ (hG▸hg);rw[r1]at hxw u1;simp only[Value.slice.injEq]at u1;obtain⟨_,_,rfl⟩:=u1;refine aB hi hG (v:=.slice (some ⟨b,off+l.toNat*e1.size,none⟩) (i.toNat-l.toNat) (i.toNat-l.toNat)) ?_
       ((ao (m:=m) (a:=.cut id _ _) (by intros;simp)).2 ⟨rfl,.arr e1 xs,hG▸hg,by omega,by omega,b,off,xs.length,cap,r1,rfl⟩) h4
      have b1:(0:Int)<=i/\i<=(cap:Int):=by omega
      have b2:(0:Int)<=i/\i<=(i.toNat:Int):=by omega
      have b3:(0:Int)<=l/\l<=(i.toNat:Int):=by omega
      have b4:¬i.toNat=l.toNat:=by omega
      have b6:max i 0=i:=by omega
      have b5:¬i.toNat-l.toNat=0:=by omega
      have hs:=bt hck m.w;rcases hl with⟨hl,rfl⟩|⟨k2,hl⟩
      ·simp[execOp,ho,hxw,hl,hh,hm,Instr.sliceAt,Instr.slice,run_underlying hu,Instr.sliceBounds,Instr.sliceBound,asIntOf,hs,b1,b2,b6,bK]
      simp[execOp,ho,hxw,hl,hh,hm,Instr.sliceAt,Instr.slice,run_underlying hu,Instr.sliceBounds,Instr.sliceBound,asIntOf,hs,b1,b2,b3,b4,b5,b6,bK];intro hx;omega
     simp at h4
    simp at h4
   simp at h4
end
end Go.Vm

/-
 The machine's operations against the model's: append.
-/
namespace Go.Vm
section
variable {P:Program}{C:Ctx}{w0:World}{M:Own}{o:Oper}{a:Act}{m:Mem}{s s':St}
theorem zB (hi:Inv C w0 M m){id i:Nat}{o o':Obj}{b:Nat}(hg:m.G.get id=some o)(hob:isObj o=true)(hbl:HB (m.ι id) b)(hn:Heap.get ((id,.dead) :: m.G) i=none)
  {w1:World} (hw:Wrote m.w b w1) {h:Value} (hh:∀ b',HB h b'↔b'=b)
  (ho:Evo m ⟨w1,m.F,λk=>if k=i then h else m.ι k,(i,o')::(id,.dead)::m.G⟩->cQ ⟨w1,m.F,λk=>if k=i then h else m.ι k,(i,o')::(id,.dead)::m.G⟩ i o') :
  Inv C w0 M ⟨w1,m.F,λk=>if k=i then h else m.ι k,(i,o')::(id,.dead)::m.G⟩/\Evo m ⟨w1,m.F,λk=>if k=i then h else m.ι k,(i,o')::(id,.dead)::m.G⟩:=by
 obtain⟨hb1,hb2,hb3⟩:=hi.own id o b hg hob hbl;have hii:i≠id:=by intro e;subst e;rw[Heap.get_cons,if_pos rfl]at hn;cases hn
 have hn':m.G.get i=none:=by rw[Heap.get_cons,if_neg (Ne.symm hii)]at hn;exact hn
 have get3:∀ k,Heap.get ((i,o')::(id,.dead)::m.G) k=if i=k then some o' else if id=k then some .dead else m.G.get k:=by intro k;rw[Heap.get_cons,Heap.get_cons]
 have he:Evo m ⟨w1,m.F,λk=>if k=i then h else m.ι k,(i,o')::(id,.dead)::m.G⟩:=by
  refine⟨λk hF=>⟨hF,hw.block k (λe=>hb2 (e▸hF))⟩,λk p hp=>?_⟩;have hik:i≠k:=by intro e;subst e;rw[hn']at hp;cases hp
  by_cases e:id=k
  ·exact⟨.dead,by show Heap.get ((i,o')::(id,.dead)::m.G) k=_;rw[get3,if_neg hik,if_pos e],.inl rfl⟩
  exact⟨p,by show Heap.get ((i,o')::(id,.dead)::m.G) k=_;rw[get3,if_neg hik,if_neg e];exact hp,.inr (.inl ⟨by simp[Ne.symm hik],Alike.refl p⟩)⟩
 refine⟨⟨?_,?_,?_,?_,?_,?_,hi.bnd,bI he hi.pin⟩,he⟩
 ·refine⟨hw.os.trans hi.kept.os,hw.tape.trans hi.kept.tape,hw.output.trans hi.kept.output,by rw[hw.size];exact hi.kept.size,λk hk hM=>?_⟩;refine(hw.block k ?_).trans (hi.kept.block k hk hM);intro e;subst e
  rcases hb1 with hb1|hb1
  ·omega
  exact hM hb1
 ·intro k p hp;change Heap.get ((i,o')::(id,.dead)::m.G) k=_ at hp;rw[get3]at hp;split at hp
  ·rename_i e;subst e
   simp only[aw]at hp;subst hp;exact ho he
  rename_i hik;split at hp
  ·simp only[aw]at hp;subst hp;trivial
  rename_i hne;by_cases hop:isObj p=true
  ·refine bL he (by simp[Ne.symm hik]) (λb' hb'=>hw.block b' ?_) (hi.objs k p hp);intro e;subst e
   exact hne (hi.inj id k o p b' hg hob hp hop hbl hb')
  cases p<;>simp_all[isObj,cQ]
 ·intro k p b' hp hop hbl';change Heap.get ((i,o')::(id,.dead)::m.G) k=_ at hp;rw[get3]at hp;have:(w0.heap.size<=b'\/M b')/\¬m.F b'/\b'<m.w.heap.size:=by
   split at hp
   ·rename_i e;subst e
    have:b'=b:=(hh b').1 (by simpa using hbl');subst this;exact⟨hb1,hb2,hb3⟩
   rename_i hik;split at hp
   ·simp only[aw]at hp;subst hp;simp[isObj]at hop
   exact hi.own k p b' hp hop (by simpa[Ne.symm hik]using hbl')
  exact⟨this.1,this.2.1,by show b'<w1.heap.size;rw[hw.size];exact this.2.2⟩
 ·have one:∀ k p b',(if i=k then some o' else if id=k then some .dead else m.G.get k)=some p->isObj p=true->HB (if k=i then h else m.ι k) b' ->
    (k=i/\b'=b)\/(k≠i/\k≠id/\m.G.get k=some p/\HB (m.ι k) b'):=by
   intro k p b' hp hop hb';split at hp
   ·rename_i e;subst e
    rw[if_pos rfl]at hb';exact .inl ⟨rfl,(hh b').1 hb'⟩
   rename_i hik;rw[if_neg (Ne.symm hik)]at hb';split at hp
   ·simp only[aw]at hp;subst hp;simp[isObj]at hop
   rename_i hne;exact .inr ⟨Ne.symm hik,Ne.symm hne,hp,hb'⟩
  intro j k p q b' hp hop hq hoq h1 h2;change Heap.get ((i,o')::(id,.dead)::m.G) _=_ at hp hq;rw[get3]at hp hq;rcases one j p b' hp hop h1 with⟨rfl,rfl⟩|⟨j1,j2,j3,j4⟩<;>rcases one k q _ hq hoq h2 with⟨rfl,k0⟩|⟨k1,k2,k3,k4⟩
  ·rfl
  ·exact absurd (hi.inj k id q o _ k3 hoq hg hob k4 hbl) k2
  ·subst k0;exact absurd (hi.inj j id p o _ j3 hop hg hob j4 hbl) j2
  exact hi.inj j k p q b' j3 hop k3 hoq j4 k4
 ·intro b' hF;show b'<w1.heap.size;rw[hw.size];exact hi.fro b' hF
 intro g τ x hx;exact(hi.glob g τ x hx).mono he.fro
def kk(w:World)(F:Nat->Prop)(e:Ty)(cs:List Value)(l:List e.den):Prop:=
 cs.length=l.length*e.size/\∀ i (h:i<l.length),Rd w F e ((cs.drop (i*e.size)).take e.size) l[i]
theorem nT{w:World}{F:Nat->Prop}{e:Ty}{cs:List Value}{l:List e.den}(h:kk w F e cs l):∀ u∈cs,u.oneCell'=true:=by
 intro u hu;obtain⟨j,hj⟩:=J7.1 hu;have hjl:j<cs.length:=(A2.1 hj).1;have hs:0<e.size:=by
  rcases Ku e.size with h0|h0
  ·rw[h.1,h0,MI]at hjl;omega
  exact h0
 have hi:j/e.size<l.length:=by rw[LX hs];rw[<- h.1];exact hjl
 refine(h.2 _ hi).one u ?_;rw[J7];refine⟨j%e.size,?_⟩;rw[JC,if_pos (Mw _ hs),J2,L6,Mx];exact hj
theorem nk {w:World}{F:Nat->Prop}{e:Ty}{c:Array Value}{off:Nat}{l:List e.den}(hc:off+l.length * e.size<=c.size)(h:∀ i (h:i < l.length),Rd w F e (seg c (off+i * e.size) e.size) l[i]) :
  kk w F e (seg c off (l.length*e.size)) l:=by
 refine⟨dw _ _ _ hc,λi hi=>?_⟩;have hle:i*e.size+e.size<=l.length*e.size:=by have:=B1 e.size (show i+1<=l.length from hi);rw[B8]at this;omega
 have:((seg c off (l.length*e.size)).drop (i*e.size)).take e.size=seg c (off+i*e.size) e.size:=er c.toList off _ _ _ hle;rw[this];exact h i hi
theorem mZ {w:World}{F:Nat->Prop}{e:Ty}{c1 c2 rest:List Value}{l1 l2:List e.den}(h1:kk w F e c1 l1)(h2:kk w F e c2 l2) :
  ∀ i (h:i<(l1++l2).length),Rd w F e (((c1++c2++rest).drop (i*e.size)).take e.size) (l1++l2)[i]:=by
 intro i hi;rw[JE]at hi;by_cases hl:i<l1.length
 ·have hle:i*e.size+e.size<=l1.length*e.size:=by have:=B1 e.size (show i+1<=l1.length from hl);rw[B8]at this;omega
  rw[JJ hl];have:((c1++c2++rest).drop (i*e.size)).take e.size=(c1.drop (i*e.size)).take e.size:=by rw[Jm,LG (by rw[h1.1];omega),KE (by rw[JU,h1.1];omega)]
  rw[this];exact h1.2 i hl
 rw[JL (by omega)];have hj:i-l1.length<l2.length:=by omega
 have hle:(i-l1.length)*e.size+e.size<=l2.length*e.size:=by have:=B1 e.size (show i-l1.length+1<=l2.length from hj);rw[B8]at this;omega
 have hmul:i*e.size=c1.length+(i-l1.length)*e.size:=by rw[h1.1,<- B8];congr 1;omega
 have:((c1++c2++rest).drop (i*e.size)).take e.size=(c2.drop ((i-l1.length)*e.size)).take e.size:=by rw[Jm,hmul,<- LH,KT,LG (by rw[h2.1];omega),KE (by rw[JU,h2.1];omega)]
 rw[this];exact h2.2 _ hj
def Hdr(m:Mem)(u:Value)(e:Ty)(l:List e.den):Prop:=
 ∃ ad cap,u=.slice ad l.length cap/\l.length<=cap/\cap<=maxLen /\
  (cap≠0->∃ b off c el fz,ad=some ⟨b,off,none⟩/\m.w.heap[b]?=some (.cells c el fz)/\eo e c.size fz/\off+cap*e.size<=c.size /\
   ∀ i (h:i<l.length),Rd m.w m.F e (seg c (off+i*e.size) e.size) l[i])
theorem kS (hi:Inv C w0 M m)(hG:m.G=s.G){e:Ty}{v:SV}{l:List e.den}{ids:List Nat}{u:Value}(h:fE s e v=some (l,ids))(hr:RelSV m u v) :
  Hdr m u e l/\((ids=[]/\∃ ad,u=.slice ad 0 0)\/∃ id o,ids=[id]/\m.G.get id=some o/\isObj o=true/\((∀ b,HB u b->HB (m.ι id) b)\/∃ ad n,u=.slice ad n 0)):=by
 unfold fE at h;split at h
 ·simp only[aw,B3]at h;obtain⟨rfl,rfl⟩:=h;obtain⟨ad,rfl,_⟩:=hr;exact⟨⟨ad,0,rfl,by simp,by unfold maxLen;omega,λh=>absurd rfl h⟩,.inl ⟨rfl,ad,rfl⟩⟩
 ·rename_i id;split at h
  ·rename_i σ l0 hg;split at h
   ·rename_i l' hl;simp only[aw,B3]at h;obtain⟨rfl,rfl⟩:=h;obtain⟨he,hl⟩:=aD hl;cases he;subst hl;obtain⟨_,ob,hob,hv⟩:=hr;rw[hG,hg]at hob;simp only[aw]at hob;subst hob;have hv:=hv rfl;subst hv;exact⟨show cQ m id (.arr e l0)from hi.objs id _ (hG▸hg),.inr ⟨id,_,rfl,hG▸hg,rfl,.inl λ_ h=>h⟩⟩
   simp at h
  simp at h
 ·rename_i id off len;split at h
  ·rename_i σ l0 hg;split at h
   ·rename_i l' hl;simp only[aw,B3]at h;obtain⟨rfl,rfl⟩:=h;obtain⟨he,hl⟩:=aD hl;cases he;subst hl;obtain⟨_,ob,hob,hv⟩:=hr;rw[hG,hg]at hob;simp only[aw]at hob;subst hob;obtain⟨hle,hview⟩:=hv;obtain⟨ad,cap,r1,r2,r3,r4⟩:=hi.objs id _ (hG▸hg);obtain⟨ad1,n1,cap1,ad2,k1,k2,k3⟩:=hview;rw[r1]at k1;simp only[Value.slice.injEq]at k1;obtain⟨rfl,rfl,rfl⟩:=k1;have hlen:((l0.drop off).take len).length=len:=by simp;omega
    refine⟨⟨ad2,cap-off,by rw[hlen,k2],by rw[hlen];omega,by omega,λhne=>?_⟩,.inr ⟨id,_,rfl,hG▸hg,rfl,?_⟩⟩
    ·obtain⟨b,o',c,el,fz,q1,q2,q3,q4,q5⟩:=r4 (by omega);refine⟨b,o'+off*e.size,c,el,fz,by rw[k3 (by omega),q1];simp[bK],q2,q3,?_,λi hi'=>?_⟩
     ·have:off*e.size+(cap-off)*e.size=cap*e.size:=by rw[<- B8];congr 1;omega
      omega
     rw[hlen]at hi';have:=q5 (off+i) (by omega);rw[show o'+off*e.size+i*e.size=o'+(off+i)*e.size by rw[B8];omega];simpa using this
    by_cases hc:cap-off=0
    ·right;exact⟨ad2,len,by rw[k2,hc]⟩
    left;obtain⟨b,o',c,el,fz,q1,q2,q3,q4,q5⟩:=r4 (by omega);rw[k2,r1,k3 (by omega),q1];intro b' hb';simp only[KB,bK,HB,HB1]at hb' ⊢;exact⟨by omega,hb'.2⟩
   simp at h
  simp at h
 simp at h
theorem Et(hi:Inv C w0 M m){id ver j:Nat}{τ:Ty}{l:List (List τ.den)}{hole:Option Nat}(hg:m.G.get id=some (.deep ver τ l hole))(hh:hole≠some j){u:Value}(hu:∃ us,m.ι id=.tuple us/\us[j+1]?=some u)(hj:j<l.length):HdrW m.w m.F u τ l[j]:=by obtain⟨u',hs,h1,h2⟩:=hi.objs id _ hg;obtain⟨us,h3,h4⟩:=hu;rw[h1]at h3;simp only[Value.tuple.injEq]at h3;subst h3;simp only[Jy,JG]at h4;exact h2.inner j hj u h4 hh
theorem kM (hi:Inv C w0 M m){e:Ty}{v:SV}{xs:List e.den}{u:Value}(hnd:ka v=false)(h:aR m.G (.slice e) v=some xs)(hr:RelSV m u v) :
  ∃ ad cap news,u=.slice ad xs.length cap/\kk m.w m.F e news xs/\xs.length<=maxLen/\(xs≠[]->∃ b off c el fz,ad=some ⟨b,off,none⟩/\m.w.heap[b]?=some (.cells c el fz)/\off+news.length<=c.size/\news=seg c off news.length):=by
 have fin {ad:Option Addr} {l:List e.den} {cap:Nat} (h1:l.length<=cap) (h2:cap<=maxLen)
   (h3:l≠[]->∃ b off c el fz,ad=some ⟨b,off,none⟩/\m.w.heap[b]?=some (.cells c el fz)/\off+l.length*e.size<=c.size/\∀ i (h:i<l.length),Rd m.w m.F e (seg c (off+i*e.size) e.size) l[i]) :
   ∃ ad' cap' news,Value.slice ad l.length cap=.slice ad' l.length cap'/\kk m.w m.F e news l/\l.length<=maxLen/\(l≠[]->∃ b off c el fz,ad'=some ⟨b,off,none⟩/\m.w.heap[b]?=some (.cells c el fz)/\off+news.length<=c.size/\news=seg c off news.length):=by
  by_cases hl:l=[]
  ·subst hl;exact⟨ad,cap,[],rfl,⟨by simp,by intro i hi;simp at hi⟩,by simp,λh=>absurd rfl h⟩
  obtain⟨b,off,c,el,fz,q1,q2,q3,q4⟩:=h3 hl;have hn:(seg c off (l.length*e.size)).length=l.length*e.size:=dw _ _ _ q3;exact⟨ad,cap,seg c off (l.length*e.size),rfl,nk q3 q4,by omega,λ_=>⟨b,off,c,el,fz,q1,q2,by rw[hn];exact q3,by rw[hn]⟩⟩
 cases v with
 |av a=>
  cases a with
  |val σ x=>obtain⟨he,hx⟩:=aD h;cases he;subst hx;obtain⟨ad,cap,rfl,h2,h3,h4⟩:=gy hr;refine fin h2 h3 (λhne=>?_);obtain⟨b,off,c,el,fz,q1,_,q2,q3,q4⟩:=h4 hne;exact⟨b,off,c,el,fz,q1,q2,q3,q4⟩
  |nils=>simp only[aR,Ty.isAgg,UB,aF,aw]at h;subst h;obtain⟨ad,rfl,_⟩:=hr;exact fin (l:=[]) (by simp) (by unfold maxLen;omega) (λh=>absurd rfl h)
  |own id=>
   simp only[aR,Ty.isAgg,UB,aF]at h;cases hg:m.G.get id with
   |none=>rw[hg]at h;simp at h
   |some ob0=>
    cases ob0 with
    |box _=>rw[hg]at h;simp at h
    |dead=>rw[hg]at h;simp at h
    |deep _ _ _ _=>rw[hg]at h;simp at h
    |map _ _ _=>rw[hg]at h;simp at h
    |arr σ l'=>
    rw[hg]at h;obtain⟨he,hx⟩:=aD h;cases he;subst hx;obtain⟨_,ob,hob,hv⟩:=hr;rw[hg]at hob;simp only[aw]at hob;subst hob;obtain⟨ad,cap,r1,r2,r3,r4⟩:=hi.objs id _ hg;rw[hv rfl,r1];refine fin r2 r3 (λhne=>?_);have:0<l'.length:=Kn.2 hne;obtain⟨b,off,c,el,fz,q1,q2,q3,q4,q5⟩:=r4 (by omega);exact⟨b,off,c,el,fz,q1,q2,by have:=B1 e.size r2;omega,q5⟩
  |view id off len=>
   have hh:∃ σ l',m.G.get id=some (.arr σ l')/\fE ⟨[],m.G⟩ e (.av (.view id off len))=some (xs,[id]):=by
    simp only[aR,Ty.isAgg,UB,aF]at h;cases hg:m.G.get id with
    |none=>rw[hg]at h;simp at h
    |some ob0=>
     cases ob0 with
     |box _=>rw[hg]at h;simp at h
     |dead=>rw[hg]at h;simp at h
     |deep _ _ _ _=>rw[hg]at h;simp at h
     |map _ _ _=>rw[hg]at h;simp at h
     |arr σ l'=>
     rw[hg]at h;obtain⟨he,hx⟩:=aD h;cases he;subst hx;refine⟨e,l',rfl,?_⟩;simp[fE,hg,bC]
   obtain⟨σ,l',hg,hb⟩:=hh;obtain⟨⟨ad,cap,rfl,r2,r3,r4⟩,_⟩:=kS (s:=⟨[],m.G⟩) hi rfl hb hr;refine fin r2 r3 (λhne=>?_);have:0<xs.length:=Kn.2 hne;obtain⟨b,off,c,el,fz,q1,q2,q3,q4,q5⟩:=r4 (by omega);exact⟨b,off,c,el,fz,q1,q2,by have:=B1 e.size r2;omega,q5⟩
  |u=>simp[aR,Ty.isAgg,aF]at h
  |undef=>simp[aR,Ty.isAgg,aF]at h
  |ptr _ _=>simp[aR]at h
  |aptr _ _ _=>simp[aR,Ty.isAgg,aF]at h
  |cut _ _ _=>simp[aR,Ty.isAgg,aF]at h
  |bnd _ _=>simp[aR,Ty.isAgg,aF]at h
  |saptr _ _ _ _=>simp[aR,Ty.isAgg,aF]at h
  |ownm _=>simp[aR,Ty.isAgg,aF]at h
  |iptr _ _ _ _ _=>simp[aR,Ty.isAgg,aF]at h
  |ownd id=>simp[ka]at hnd
  |sub id ver j=>
   simp only[aR,Ty.isAgg,UB,aF]at h;obtain⟨_,ob,hob,hv⟩:=hr;rw[hob]at h;cases ob with
   |deep ver' σ l' hole=>
    cases hole with
    |some _=>simp at h
    |none=>
     simp only at h hv;cases hb:A7 ver ver' with
     |false=>rw[hb]at h;simp at h
     |true=>
      rw[hb]at h;have:=A3 hb;subst this;obtain⟨hj,_,hu⟩:=hv.2 rfl;rw[jZ hj]at h;simp only[UA]at h;obtain⟨e',hy⟩:=aD h;simp only[Ty.slice.injEq]at e';subst e';subst hy
      obtain⟨ad,cap,r1,r2,r3,r4⟩:=Et hi hob (by simp) hu hj;rw[r1];refine fin r2 r3 (λhne=>?_);have:0<l'[j].length:=Kn.2 hne;obtain⟨b,off,c,el,fz,q1,q2,q3,q4,q5⟩:=r4 (by omega);exact⟨b,off,c,el,fz,q1,q2,by have:=B1 σ.size r2;omega,q5⟩
   |_=>simp at h
  |clo _ _=>simp[aR]at h
 |agg l=>simp[aR,Ty.isAgg]at h
 |tup l=>simp[aR]at h
theorem iR(c:Array Value)(o:Nat)(vs:List Value)(h:o+vs.length<=c.size)(d n:Nat)(hd:d+n<=vs.length):seg (aM c o vs) (o+d) n=(vs.drop d).take n:=by
 apply Kk;intro k;by_cases hk:k<n
 ·rw[seg_getElem? _ _ _ _ hk,dq c o vs h,if_pos (by omega),JC,if_pos hk,J2];congr 1;omega
 rw[JC,if_neg hk];unfold seg;rw[JC,if_neg hk]
end
end Go.Vm

/-
 The machine's operations against the model's: append, joined.
-/
namespace Go.Vm
section
variable {P:Program}{C:Ctx}{w0:World}{M:Own}{o:Oper}{a:Act}{m:Mem}{s s':St}
theorem vP {e:Ty}{xs:List e.den}{ad:Option Addr}{cap:Nat}{news:List Value}(h1:kk m.w m.F e news xs)
  (h2:xs≠[]->∃ b off c el fz,ad=some ⟨b,off,none⟩/\m.w.heap[b]?=some (.cells c el fz)/\off+news.length<=c.size/\news=seg c off news.length) {w:World} (hw:w.heap=m.w.heap) :
  (Builtin.firstCells e.size xs.length (.slice ad xs.length cap)).run P w=.ok news.toArray w:=by
 by_cases hne:xs=[]
 ·subst hne;have:news=[]:=Jp (by rw[h1.1];simp);subst this;cases ad<;>simp[Builtin.firstCells,loadCells,loadCellsFrom]
 obtain⟨b,off,c,el,fz,rfl,q2,q3,q4⟩:=h2 hne;refine run_firstCells_some (P:=P) w e.size xs.length _ _ _ news h1.1 (λj v hj=>?_);have hjl:j<news.length:=(A2.1 hj).1;rw[bK,cC (by rw[hw];exact q2),<- seg_getElem? c off news.length j hjl,<- q4];exact hj
theorem qS {t:TypeId}{x y:Operand}{e:Ty}{l xs:List e.den}{r:List e.den}(hT:cb P C.tab=true)(hi:Inv C w0 M m)(hG:m.G=s.G)(hS:∀ x,RelSV m (a.eval x) (ah C s.env x))
  (ho:o.op=.call { callee:=.builtin .append,args:=#[x,y],argTypes:=#[t,t] }) (ht:C.tab.get t=some (.slice e))
  (hnd:ka (ah C s.env y)=false) (hcut:xT s e (ah C s.env x)=some l) (hsv:aR s.G (.slice e) (ah C s.env y)=some xs) (hk:xs≠[]) (hr:app l xs=some r)
  (h:bj s (o.dst.getD 0) (.arr e r) (λi s2=>some (ag o.dst (.av (.own i)) s2))=some s'):Does P o a m.w (Res C w0 M m s s' o.dst):=by
 unfold app at hr;split at hr
 ·rename_i hlim;simp only[aw]at hr;subst hr;have hlimv:lim=68719476736:=rfl;rw[hlimv]at hlim;obtain⟨i,hfree,h⟩:=bM h;simp only[aw]at h;obtain⟨et,hu,hck⟩:=aT (aj hT ht);obtain⟨inf,z,r1,r2,r3,r4,r5,r6,r7⟩:=dn hck;have hx:=hS x;generalize hvx:ah C s.env x=vx at hcut hx;unfold xT at hcut;split at hcut
  ·rename_i id off len;obtain⟨_,ob,hob,hxv⟩:=(ao (m:=m) (a:=.cut id off len) (by intros;simp)).1 hx;rw[hG]at hob;split at hcut
   ·rename_i σ l0 hg;rw[hg]at hob;simp only[aw]at hob;subst hob;split at hcut
    ·rename_i l1 hl1;simp only[aw]at hcut;subst hcut;obtain⟨he,hl1⟩:=aD hl1;cases he;subst hl1;simp only at hxv;obtain⟨k1,k2,b,o',n',cap',v1,v2⟩:=hxv;obtain⟨b',o'',cap,c,el,fz,q1,q2,q3,q4,q5,q6,q7,q8,q9⟩:=mp hi (hG▸hg) (j:=off) (by omega);rw[v1]at q1;simp only[Value.slice.injEq,aw,Addr.mk.injEq,and_true]at q1;obtain⟨⟨rfl,rfl⟩,rfl,rfl⟩:=q1;have hlen:((l0.drop off).take len).length=len:=by simp;omega
     obtain⟨xd,xcap,news,hxv,x2,x3,x4⟩:=kM hi hnd (hG▸hsv) (hS y);have hone:=nT x2;have hfresh:Heap.get m.G i=none:=by rw[hG];exact hfree
     have hkl:0<xs.length:=Kn.2 hk;obtain⟨xb,xoff,xc,xel,xfz,rfl,y2,y3,y4⟩:=x4 hk;obtain⟨z0,ez,hz0,_⟩:=dO (m:=m) (lf (aj hT ht)) r5;rw[Jz]at ez;have hzs:z.cells.size=e.size:=by rw[<- JD,ez];exact hz0.len
     have hnews:∀ j v,news[j]?=some v->m.w.cell? ((⟨xb,xoff,none⟩:Addr).add j)=some v:=by intro j v hj;have hjl:j<news.length:=(A2.1 hj).1;rw[bK,cC y2,<- seg_getElem? xc xoff news.length j hjl,<- y4];exact hj
     rw[hlen]at hlim;have hge:=grownCap_ge m.w (len+xs.length) len et;have hcm:grownCap m.w (len+xs.length) len et<=maxLen:=grownCap_le_maxLen _ _ _ _ (by unfold maxLen;omega);have hfits:Builtin.nextslicecap (len+xs.length) len*inf.bytes<=281474976710656:=growslice_fits (by omega) (by
      have h1:(len+xs.length)*inf.bytes<=68719476736*2048:=K5 hlim r3;omega)
     have hle:off*e.size+len*e.size<=l0.length*e.size:=by rw[<- B8];exact B1 _ k1
     have hle2:l0.length*e.size<=cap'*e.size:=B1 _ q2;have hsl:(seg c (o'+off*e.size) (len*e.size)).length=len*e.size:=dw _ _ _ (by omega);have kc:kk m.w m.F e (seg c (o'+off*e.size) (len*e.size)) ((l0.drop off).take len):=by
      have:=nk (w:=m.w) (F:=m.F) (e:=e) (c:=c) (off:=o'+off*e.size) (l:=(l0.drop off).take len) (by rw[hlen];omega) (λi hi'=>by
       rw[hlen]at hi';have:=q8 (off+i) (by omega);rw[show o'+off*e.size+i*e.size=o'+(off+i)*e.size by rw[B8];omega];simpa using this)
      rw[hlen]at this;exact this
     have hrun:(Builtin.append_ #[t,t] o.type #[.slice (some ⟨b,o'+off * e.size,none⟩) len len,.slice (some ⟨xb,xoff,none⟩) xs.length xcap]).run P m.w =
       .ok (.slice (some ⟨m.w.heap.size,0,none⟩) (len+xs.length) (grownCap m.w (len+xs.length) len et))
        (m.w.drew.alloc (.cells ((seg c (o'+off*e.size) (len*e.size)).toArray++news.toArray++Builtin.zeroCells z.cells (grownCap m.w (len+xs.length) len et-(len+xs.length))) et)):=
      run_append_grow (P:=P) m.w t o.type et inf z hu r1 r4 ⟨b,o'+off*e.size,none⟩ len len _ (by rw[r2];exact hsl) (λj v hj=>by
       have hjl:j<len*e.size:=by rw[<- hsl];exact(A2.1 hj).1
       rw[bK,cC q4,<- seg_getElem? c (o'+off*e.size) _ j hjl];exact hj) ⟨xb,xoff,none⟩ xs.length xcap news (by rw[r2];exact x2.1) hnews (by omega) (by omega) hfits
     have hsz:((seg c (o'+off*e.size) (len*e.size)).toArray++news.toArray++Builtin.zeroCells z.cells (grownCap m.w (len+xs.length) len et-(len+xs.length))).size=grownCap m.w (len+xs.length) len et*e.size:=by simp only[K7,KU,size_zeroCells,hzs,hsl,x2.1,<- B8];congr 1;omega
     obtain⟨m',p1,p2,p3,p4,p5⟩:=lz (τ:=e) (l:=(l0.drop off).take len++xs) (cap:=grownCap m.w (len+xs.length) len et) (fz:=(0,0)) hi (i:=i) hfresh
      (w1:=m.w.drew.alloc (.cells ((seg c (o'+off*e.size) (len*e.size)).toArray++news.toArray++Builtin.zeroCells z.cells (grownCap m.w (len+xs.length) len et-(len+xs.length))) et)) (eE m.w _)
      (b0 m.w.drew _) (.inl (B2 _)) (by rw[JE,hlen];exact hge) hcm (by rw[hsz];exact B2 _) (λj hj=>by
       have:=mZ (rest:=(Builtin.zeroCells z.cells (grownCap m.w (len+xs.length) len et-(len+xs.length))).toList) kc x2 j hj;unfold seg at this ⊢;simpa using this)
     refine Does.value (w':=m'.w) (v:=.slice (some ⟨m.w.heap.size,0,none⟩) (len+xs.length) (grownCap m.w (len+xs.length) len et)) ?_ ⟨m',.av (.own i),rfl,?_,p3,p4,by rw[JE,hlen]at p5;exact p5⟩
     ·simp[execOp,ho,resolve,invoke,builtin,v2,hxv,hrun,p1]
     rw[<- h,p2,hG]
    simp at hcut
   simp at hcut
  simp at hcut
 simp at hr
theorem qI {t:TypeId}{x y:Operand}{e:Ty}{l xs r:List e.den}{ids:List Nat}(hT:cb P C.tab=true)(hi:Inv C w0 M m)(hG:m.G=s.G)
  (ho:o.op=.call { callee:=.builtin .append,args:=#[x,y],argTypes:=#[t,t] }) (ht:C.tab.get t=some (.slice e)) (hH:Hdr m (a.eval x) e l)
  (hids:(ids=[]/\∃ ad,a.eval x=.slice ad 0 0)\/∃ id o,ids=[id]/\m.G.get id=some o/\isObj o=true/\((∀ b,HB (a.eval x) b->HB (m.ι id) b)\/∃ ad n,a.eval x=.slice ad n 0))
  (hN:∃ ad cap news,a.eval y=.slice ad xs.length cap/\kk m.w m.F e news xs/\xs.length<=maxLen/\(xs≠[]->∃ b off c el fz,ad=some ⟨b,off,none⟩/\m.w.heap[b]?=some (.cells c el fz)/\off+news.length<=c.size/\news=seg c off news.length))
  (hr:app l xs=some r) (h:bj { env:=s.env,G:=aq ids s.G } (o.dst.getD 0) (.arr e r) (λi s2=>some (ag o.dst (.av (.own i)) s2))=some s'):Does P o a m.w (Res C w0 M m s s' o.dst):=by
 unfold app at hr;split at hr
 ·rename_i hlim;simp only[aw]at hr;subst hr;have hlimv:lim=68719476736:=rfl;rw[hlimv]at hlim;obtain⟨i,hfree,h⟩:=bM h;simp only[aw]at h;obtain⟨et,hu,hck⟩:=aT (aj hT ht);obtain⟨inf,z,r1,r2,r3,r4,r5,r6,r7⟩:=dn hck;obtain⟨ad,cap,hbv,b2,b3,b4⟩:=hH;obtain⟨xd,xcap,news,hxv,x2,x3,x4⟩:=hN;have hfc:∀ w:World,w.heap=m.w.heap->(Builtin.firstCells e.size xs.length (.slice xd xs.length xcap)).run P w=.ok news.toArray w:=λw hw=>vP x2 x4 hw;have hone:=nT x2;have hfresh:Heap.get (aq ids m.G) i=none:=by rw[hG];exact hfree
  by_cases hfit:l.length+xs.length<=cap
  ·by_cases hc0:cap=0
   ·subst hc0;have hl0:l.length=0:=by omega
    have hx0:xs.length=0:=by omega
    have hl0':l=[]:=Jp hl0;have hx0':xs=[]:=Jp hx0;subst hl0';subst hx0';have hn0:news=[]:=Jp (by rw[x2.1];simp);subst hn0;obtain⟨m1,a1,a2,a3,a4,a5,a6⟩:=cE ids hi;obtain⟨m',q1,q2,q3,q4,q5⟩:=DD (τ:=e) a4 (i:=i) (by rw[a3];exact hfresh) (Kept.refl m1.w _) ad;have hrun:(Builtin.append_ #[t,t] o.type #[.slice ad 0 0,.slice xd 0 xcap]).run P m.w=.ok (.slice ad 0 0) m.w:=by have:=hfc m.w rfl;simp only[JB]at this;cases ad<;>simp[Builtin.append_,run_underlying hu,sizeOf,typeInfo,r1,r2,Builtin.lenOf,this,storeCells]
    refine Does.value (w':=m'.w) (v:=.slice ad 0 0) ?_ ⟨m',.av (.own i),rfl,?_,q3,a5.trans q4,q5⟩
    ·simp only[JB]at hbv hxv;simp[execOp,ho,resolve,invoke,builtin,hbv,hxv,hrun,q1,a1]
    rw[<- h,q2,a3,hG];rfl
   obtain⟨b,off,c,el,fz,rfl,c2,c3,c4,c5⟩:=b4 hc0;have hmul:l.length*e.size+xs.length*e.size<=cap*e.size:=by rw[<- B8];exact B1 _ hfit
   have hnl:news.length=xs.length*e.size:=x2.1;have hin:off+l.length*e.size+news.length<=c.size:=by omega
   have hst:=cH (P:=P) b (off+l.length*e.size) el fz news 0 c m.w c2 c3 (by omega) hone;simp only[JY]at hst;have hst:(storeCells ⟨b,off+l.length*e.size,none⟩ news).run P m.w=.ok () (m.w.setRow b (aM c (off+l.length*e.size) news)):=hst;have hrun:(Builtin.append_ #[t,t] o.type #[.slice (some ⟨b,off,none⟩) l.length cap,.slice xd xs.length xcap]).run P m.w=.ok (.slice (some ⟨b,off,none⟩) (l.length+xs.length) cap) (m.w.setRow b (aM c (off+l.length*e.size) news)):=by simp[Builtin.append_,run_underlying hu,sizeOf,typeInfo,r1,r2,Builtin.lenOf,hfc m.w rfl,hfit,bK,hst]
   rcases hids with⟨_,ad0,h0⟩|⟨id,ob,rfl,hg,hob,hblk⟩
   ·rw[h0]at hbv;simp only[Value.slice.injEq]at hbv;omega
   have hblk:HB (m.ι id) b:=by
    rcases hblk with hblk|⟨ad0,n0,h0⟩
    ·exact hblk b (by rw[hbv];simp[HB,HB1,hc0])
    rw[h0]at hbv;simp only[Value.slice.injEq]at hbv;omega
   have hheap:(m.w.setRow b (aM c (off+l.length*e.size) news)).heap[b]?=some (.cells (aM c (off+l.length*e.size) news) el fz):=setRow_heap m.w b c _ el fz c2;obtain⟨g1,g2⟩:=zB hi hg hob hblk (i:=i) hfresh (o':=.arr e (l++xs)) (cd m.w b (aM c (off+l.length*e.size) news)) (h:=.slice (some ⟨b,off,none⟩) (l.length+xs.length) cap) (λb'=>by simp[HB,HB1,hc0,eq_comm]) (λhe=>by
    refine⟨some ⟨b,off,none⟩,cap,by simp,by simpa using hfit,b3,λ_=>⟨b,off,_,el,fz,rfl,hheap,by rw[bw _ _ _ hin];exact c3,by rw[bw _ _ _ hin];exact c4,λj hj=>?_⟩⟩;refine Rd.mono he.fro ?_;rw[JE]at hj;by_cases hjl:j<l.length
    ·have hle:j*e.size+e.size<=l.length*e.size:=by have:=B1 e.size (show j+1<=l.length from hjl);rw[B8]at this;omega
     rw[JJ hjl,ca _ _ _ hin _ _ (.inl (by omega))];exact c5 j hjl
    have hjx:j-l.length<xs.length:=by omega
    have hle:(j-l.length)*e.size+e.size<=xs.length*e.size:=by have:=B1 e.size (show j-l.length+1<=xs.length from hjx);rw[B8]at this;omega
    have hmj:j*e.size=l.length*e.size+(j-l.length)*e.size:=by rw[<- B8];congr 1;omega
    rw[JL (by omega),show off+j*e.size=off+l.length*e.size+(j-l.length)*e.size by omega,iR _ _ _ hin _ _ (by omega)];exact x2.2 _ hjx)
   refine Does.value (w':=m.w.setRow b (aM c (off+l.length*e.size) news)) (v:=.slice (some ⟨b,off,none⟩) (l.length+xs.length) cap) ?_ ⟨_,.av (.own i),rfl,?_,g1,g2,?_⟩
   ·simp[execOp,ho,resolve,invoke,builtin,hbv,hxv,hrun]
   ·rw[<- h,<- hG];rfl
   exact(ao (a:=.own i) (by intros;simp)).2 ⟨rfl,.arr e (l++xs),by show Heap.get ((i,.arr e (l++xs))::_) i=_;rw[Heap.get_cons,if_pos rfl],λ_=>by simp⟩
  have hk:xs≠[]:=by intro e0;subst e0;simp only[JB]at hfit;omega
  have hkl:0<xs.length:=Kn.2 hk;obtain⟨xb,xoff,xc,xel,xfz,rfl,y2,y3,y4⟩:=x4 hk;obtain⟨z0,ez,hz0,_⟩:=dO (m:=m) (lf (aj hT ht)) r5;rw[Jz]at ez;have hzs:z.cells.size=e.size:=by rw[<- JD,ez];exact hz0.len
  have hnews:∀ j v,news[j]?=some v->m.w.cell? ((⟨xb,xoff,none⟩:Addr).add j)=some v:=by intro j v hj;have hjl:j<news.length:=(A2.1 hj).1;rw[bK,cC y2,<- seg_getElem? xc xoff news.length j hjl,<- y4];exact hj
  have hge:=grownCap_ge m.w (l.length+xs.length) cap et;have hcm:grownCap m.w (l.length+xs.length) cap et<=maxLen:=grownCap_le_maxLen _ _ _ _ (by unfold maxLen;omega);have hfits:Builtin.nextslicecap (l.length+xs.length) cap*inf.bytes<=281474976710656:=growslice_fits (by omega) (by
   have h1:(l.length+xs.length)*inf.bytes<=68719476736*2048:=K5 hlim r3;omega)
  have key:∃ olds,kk m.w m.F e olds l/\(Builtin.append_ #[t,t] o.type #[.slice ad l.length cap,.slice (some ⟨xb,xoff,none⟩) xs.length xcap]).run P m.w =
    .ok (.slice (some ⟨m.w.heap.size,0,none⟩) (l.length+xs.length) (grownCap m.w (l.length+xs.length) cap et))
     (m.w.drew.alloc (.cells (olds.toArray++news.toArray++Builtin.zeroCells z.cells (grownCap m.w (l.length+xs.length) cap et-(l.length+xs.length))) et)):=by
   by_cases hc0:cap=0
   ·have hl0:l=[]:=Jp (by omega);subst hl0;subst hc0;refine⟨[],⟨by simp,by intro i hi;simp at hi⟩,?_⟩;cases ad with
    |some ad=>exact run_append_grow (P:=P) m.w t o.type et inf z hu r1 r4 ad 0 0 [] (by simp) (by intro j v hj;simp at hj) ⟨xb,xoff,none⟩ xs.length xcap news (by rw[r2];exact x2.1) hnews (by omega) (by simp only[JB]at hlim;omega) (by simpa using hfits)
    |none=>have hn0:Builtin.nextslicecap xs.length 0=xs.length:=nextslicecap_zero hkl;have:=run_append_nil (P:=P) m.w t o.type et inf z hu r1 r4 ⟨xb,xoff,none⟩ xs.length xcap news (by rw[r2];exact x2.1) hnews hkl (by simp only[JB]at hlim;omega) (by simp only[JB,JP,hn0]at hfits;exact hfits);simpa using this
   obtain⟨b,off,c,el,fz,rfl,c2,c3,c4,c5⟩:=b4 hc0;have hmul:l.length*e.size<=cap*e.size:=B1 _ b2;refine⟨seg c off (l.length*e.size),nk (by omega) c5,?_⟩;have hsl:(seg c off (l.length*e.size)).length=l.length*e.size:=dw _ _ _ (by omega);exact run_append_grow (P:=P) m.w t o.type et inf z hu r1 r4 ⟨b,off,none⟩ l.length cap _ (by rw[r2];exact hsl) (λj v hj=>by
    have hjl:j<l.length*e.size:=by rw[<- hsl];exact(A2.1 hj).1
    rw[bK,cC c2,<- seg_getElem? c off _ j hjl];exact hj) ⟨xb,xoff,none⟩ xs.length xcap news (by rw[r2];exact x2.1) hnews (by omega) (by omega) hfits
  obtain⟨olds,k1,hrun⟩:=key;obtain⟨m1,a1,a2,a3,a4,a5,a6⟩:=cE ids hi;have mono:∀{cs:List Value} {l:List e.den},kk m.w m.F e cs l->kk m1.w m1.F e cs l:=λhc=>⟨hc.1,λi hi=>(hc.2 i hi).mono a5.fro⟩;have hsz:(olds.toArray++news.toArray++Builtin.zeroCells z.cells (grownCap m.w (l.length+xs.length) cap et-(l.length+xs.length))).size=grownCap m.w (l.length+xs.length) cap et*e.size:=by simp only[K7,KU,size_zeroCells,hzs,k1.1,x2.1,<- B8];congr 1;omega
  obtain⟨m',q1,q2,q3,q4,q5⟩:=lz (τ:=e) (l:=l++xs) (cap:=grownCap m.w (l.length+xs.length) cap et) (fz:=(0,0)) a4 (i:=i) (by rw[a3];exact hfresh)
   (w1:=m.w.drew.alloc (.cells (olds.toArray++news.toArray++Builtin.zeroCells z.cells (grownCap m.w (l.length+xs.length) cap et-(l.length+xs.length))) et)) (by rw[a1];exact eE m.w _)
   (by rw[a1];exact b0 m.w.drew _) (.inl (B2 _)) (by rw[JE];exact hge) hcm (by rw[hsz];exact B2 _) (λj hj=>by
    have:=mZ (rest:=(Builtin.zeroCells z.cells (grownCap m.w (l.length+xs.length) cap et-(l.length+xs.length))).toList) (mono k1) (mono x2) j hj;unfold seg;simpa using this)
  refine Does.value (w':=m'.w) (v:=.slice (some ⟨m.w.heap.size,0,none⟩) (l.length+xs.length) (grownCap m.w (l.length+xs.length) cap et)) ?_ ⟨m',.av (.own i),rfl,?_,q3,a5.trans q4,by rw[JE,a1]at q5;exact q5⟩
  ·simp[execOp,ho,resolve,invoke,builtin,hbv,hxv,hrun,q1]
  rw[<- h,q2,a3,hG]
 simp at hr
theorem pN {t et ty:TypeId}{e:Ty}{n k cap:Nat}{ad xd:Option Addr}{xcap:Nat}{news:List Value}(hu:P.underlying t=some (.slice et))(hck:chk P e none et=true)(w:World)(hn:n<=cap)
  (hb:cap≠0->∃ b off c el fz,ad=some ⟨b,off,none⟩/\w.heap[b]?=some (.cells c el fz)/\eo e c.size fz/\off+cap*e.size<=c.size) (hx:news.length=k*e.size) (hone:∀ u∈news,u.oneCell'=true)
  (hxb:k≠0->∃ b off c el fz,xd=some ⟨b,off,none⟩/\w.heap[b]?=some (.cells c el fz)/\off+news.length<=c.size/\news=seg c off news.length) (hlim:n+k<=68719476736) :
  (cap=0/\k=0/\n=0/\(Builtin.append_ #[t,t] ty #[.slice ad n cap,.slice xd k xcap]).run P w=.ok (.slice ad 0 0) w) \/
  (cap≠0/\n+k<=cap/\∀ b off c el fz,ad=some ⟨b,off,none⟩->w.heap[b]?=some (.cells c el fz)->(Builtin.append_ #[t,t] ty #[.slice ad n cap,.slice xd k xcap]).run P w=.ok (.slice (some ⟨b,off,none⟩) (n+k) cap) (w.setRow b (aM c (off+n*e.size) news))) \/
  (∃ olds cells cap',olds.length=n*e.size/\(n≠0->∀ b off c el fz,ad=some ⟨b,off,none⟩->w.heap[b]?=some (.cells c el fz)->olds=seg c off (n*e.size))/\n+k<=cap'/\cap'<=maxLen/\cells.size=cap'*e.size /\
   (∃ rest,cells.toList=olds++news++rest)/\(Builtin.append_ #[t,t] ty #[.slice ad n cap,.slice xd k xcap]).run P w=.ok (.slice (some ⟨w.heap.size,0,none⟩) (n+k) cap') (w.drew.alloc (.cells cells et))):=by
 obtain⟨inf,z,r1,r2,r3,r4,r5,r6,r7⟩:=dn hck;have hnews:∀ b off c el fz,xd=some ⟨b,off,none⟩->w.heap[b]?=some (.cells c el fz)->news=seg c off news.length->∀ j v,news[j]?=some v->w.cell? ((⟨b,off,none⟩:Addr).add j)=some v:=by intro b off c el fz _ y2 y4 j v hj;have hjl:j<news.length:=(A2.1 hj).1;rw[bK,cC y2,<- seg_getElem? c off news.length j hjl,<- y4];exact hj
 have hfc:(Builtin.firstCells e.size k (.slice xd k xcap)).run P w=.ok news.toArray w:=by
  by_cases hk:k=0
  ·subst hk;have:news=[]:=Jp (by rw[hx];simp);subst this;cases xd<;>simp[Builtin.firstCells,loadCells,loadCellsFrom]
  obtain⟨b,off,c,el,fz,rfl,q2,q3,q4⟩:=hxb hk;exact run_firstCells_some (P:=P) w e.size k _ _ _ news hx (hnews b off c el fz rfl q2 q4)
 by_cases hfit:n+k<=cap
 ·by_cases hc0:cap=0
  ·subst hc0;have hn0:n=0:=by omega
   have hk0:k=0:=by omega
   subst hn0;subst hk0;have hn0:news=[]:=Jp (by rw[hx];simp);subst hn0;refine .inl ⟨rfl,rfl,rfl,?_⟩;cases ad<;>simp[Builtin.append_,run_underlying hu,sizeOf,typeInfo,r1,r2,Builtin.lenOf,hfc,storeCells]
  refine .inr (.inl ⟨hc0,hfit,λb off c el fz hb1 hb2=>?_⟩);obtain⟨b',off',c',el',fz',e1,e2,c3,c4⟩:=hb hc0;rw[hb1]at e1;simp only[aw,Addr.mk.injEq,and_true]at e1;obtain⟨rfl,rfl⟩:=e1;rw[hb2]at e2;cases e2;subst hb1;have hmul:n*e.size+k*e.size<=cap*e.size:=by rw[<- B8];exact B1 _ hfit
  have hst:=cH (P:=P) b (off+n*e.size) el fz news 0 c w hb2 c3 (by omega) hone;simp only[JY]at hst;have hst:(storeCells ⟨b,off+n*e.size,none⟩ news).run P w=.ok () (w.setRow b (aM c (off+n*e.size) news)):=hst;simp[Builtin.append_,run_underlying hu,sizeOf,typeInfo,r1,r2,Builtin.lenOf,hfc,hfit,bK,hst]
 have hk:k≠0:=by omega
 obtain⟨xb,xoff,xc,xel,xfz,rfl,y2,y3,y4⟩:=hxb hk;obtain⟨z0,ez,hz0,_⟩:=fy r5;rw[Jz]at ez;have hzs:z.cells.size=e.size:=by rw[<- JD,ez];exact hz0
 have hnews:=hnews xb xoff xc xel xfz rfl y2 y4;have hge:=grownCap_ge w (n+k) cap et;have hcm:grownCap w (n+k) cap et<=maxLen:=grownCap_le_maxLen _ _ _ _ (by unfold maxLen;omega);have hfits:Builtin.nextslicecap (n+k) cap*inf.bytes<=281474976710656:=growslice_fits (by omega) (by
  have h1:(n+k)*inf.bytes<=68719476736*2048:=K5 hlim r3;omega)
 have key:∃ olds:List Value,olds.length=n * e.size/\(n≠0->∀ b off c el fz,ad=some ⟨b,off,none⟩->w.heap[b]?=some (.cells c el fz)->olds=seg c off (n * e.size))/\(Builtin.append_ #[t,t] ty #[.slice ad n cap,.slice (some ⟨xb,xoff,none⟩) k xcap]).run P w =
   .ok (.slice (some ⟨w.heap.size,0,none⟩) (n+k) (grownCap w (n+k) cap et)) (w.drew.alloc (.cells (olds.toArray++news.toArray++Builtin.zeroCells z.cells (grownCap w (n+k) cap et-(n+k))) et)):=by
  by_cases hc0:cap=0
  ·subst hc0;have hn0:n=0:=by omega
   subst hn0;refine⟨[],by simp,λh=>absurd rfl h,?_⟩;cases ad with
   |some ad=>exact run_append_grow (P:=P) w t ty et inf z hu r1 r4 ad 0 0 [] (by simp) (by intro j v hj;simp at hj) ⟨xb,xoff,none⟩ k xcap news (by rw[r2];exact hx) hnews (by omega) (by omega) (by simpa using hfits)
   |none=>have hn0:Builtin.nextslicecap k 0=k:=nextslicecap_zero (by omega);have:=run_append_nil (P:=P) w t ty et inf z hu r1 r4 ⟨xb,xoff,none⟩ k xcap news (by rw[r2];exact hx) hnews (by omega) (by omega) (by simp only[JP,hn0]at hfits;exact hfits);simpa using this
  obtain⟨b,off,c,el,fz,rfl,c2,c3,c4⟩:=hb hc0;have hmul:n*e.size<=cap*e.size:=B1 _ hn;have hsl:(seg c off (n*e.size)).length=n*e.size:=dw _ _ _ (by omega);refine⟨seg c off (n*e.size),hsl,λ_ b' off' c' el' fz' e1 e2=>?_,?_⟩
  ·simp only[aw,Addr.mk.injEq,and_true]at e1;obtain⟨rfl,rfl⟩:=e1;rw[c2]at e2;cases e2;rfl
  exact run_append_grow (P:=P) w t ty et inf z hu r1 r4 ⟨b,off,none⟩ n cap _ (by rw[r2];exact hsl) (λj v hj=>by
   have hjl:j<n*e.size:=by rw[<- hsl];exact(A2.1 hj).1
   rw[bK,cC c2,<- seg_getElem? c off _ j hjl];exact hj) ⟨xb,xoff,none⟩ k xcap news (by rw[r2];exact hx) hnews (by omega) (by omega) hfits
 obtain⟨olds,k1,k2,hrun⟩:=key;refine .inr (.inr ⟨olds,_,_,k1,k2,hge,hcm,?_,⟨(Builtin.zeroCells z.cells (grownCap w (n+k) cap et-(n+k))).toList,by simp⟩,hrun⟩);simp only[K7,KU,size_zeroCells,hzs,k1,hx,<- B8];congr 1;omega
theorem qe (hi:Inv C w0 M m){σ : Ty}{v:SV}{u:Value}{p:List (List σ.den)×List Nat}(h:kC m.G σ v=some p)(hr:RelSV m u v) :
  ∃ hs,DeepW m.w m.F u hs σ p.1 none/\(∀ v∈u::hs,∀ b,HB v b->∃ id,id∈p.2/\∃ o,m.G.get id=some o/\isObj o=true/\HB (m.ι id) b)/\∀ id∈p.2,∃ o,m.G.get id=some o:=by
 unfold kC at h;split at h
 ·cases h;obtain⟨ad,rfl,_⟩:=hr;have hnb:∀ b,¬HB (.slice ad 0 0) b:=λb hb=>by cases ad<;>simp[HB,HB1]at hb
  exact⟨[],⟨rfl,⟨ad,0,rfl,by simp,by unfold maxLen;omega,λh=>absurd rfl h⟩,by intro i hi;simp at hi,(by intro i v hi;cases hi),JI _ _⟩,λv hv b hb=>by simp at hv;subst hv;exact absurd hb (hnb b),by simp⟩
 ·rename_i id;split at h
  ·rename_i ver τ l hg;split at h
   ·rename_i x hx;cases h;obtain⟨e,hx⟩:=aD hx;simp only[Ty.slice.injEq]at e;subst e;subst hx
    obtain⟨_,ob,hob,hv⟩:=hr;rw[hg]at hob;cases hob;obtain⟨us,v1,v2⟩:=hv;obtain⟨u',hs,d1,d2⟩:=cr hi hg;rw[d1]at v1;simp only[Value.tuple.injEq]at v1;subst v1;simp only[Jy,Ju,aw]at v2;subst v2;exact⟨hs,d2,λv hv b hb=>⟨id,by simp,_,hg,rfl,by rw[d1,bY d2.one];exact⟨v,hv,hb⟩⟩,λk hk=>by simp at hk;subst hk;exact⟨_,hg⟩⟩
   simp at h
  simp at h
 simp at h
theorem qC {t:TypeId}{x y:Operand}{σ : Ty}{l xs:List (List σ.den)×List Nat}{r:List (List σ.den)}(hT:cb P C.tab=true)(hi:Inv C w0 M m)(hG:m.G=s.G)(hS:∀ x,RelSV m (a.eval x) (ah C s.env x))
  (ho:o.op=.call { callee:=.builtin .append,args:=#[x,y],argTypes:=#[t,t] }) (ht:C.tab.get t=some (.slice (.slice σ)))
  (hl:kC s.G σ (ah C s.env x)=some l) (hx:kC s.G σ (ah C s.env y)=some xs) (hr:app l.1 xs.1=some r) (hnd:aH (l.2++xs.2)=true)
  (h:bj { env:=s.env,G:=aq (l.2++xs.2) s.G } (o.dst.getD 0) (.deep 0 σ r none) (λi s2=>some (ag o.dst (.av (.ownd i)) s2))=some s'):Does P o a m.w (Res C w0 M m s s' o.dst):=by
 unfold app at hr;split at hr
 case isFalse=>simp at hr
 rename_i hlim;simp only[aw]at hr;subst hr;have hlimv:lim=68719476736:=rfl;rw[hlimv]at hlim;obtain⟨i,hfree,h⟩:=bM h;simp only[aw]at h;obtain⟨et,hu,hck⟩:=aT (aj hT ht);rw[<- hG]at hl hx;obtain⟨hs1,p1,p2,p3⟩:=qe hi hl (hS x);obtain⟨hs2,q1,q2,q3⟩:=qe hi hx (hS y);obtain⟨ad,cap,b1,b2,b3,b4⟩:=p1.outer;obtain⟨xd,xcap,x1,x2,x3,x4⟩:=q1.outer;obtain⟨n1,n2,n3⟩:=aU hnd
 -- the parts are free
 obtain⟨d1,d2,d3,d4⟩:=jT (l.2++xs.2) hi (λid hid=>by
  rcases A4.1 hid with hid|hid
  ·exact p3 id hid
  exact q3 id hid)
 have f1:∀ v∈a.eval x::hs1,cM w0 M ⟨m.w,m.F,m.ι,aq (l.2++xs.2) m.G⟩ v:=λv hv b hb=>by obtain⟨id,e1,ob,e2,e3,e4⟩:=p2 v hv b hb;exact d4 id (by simp[e1]) ob e2 e3 b e4
 have f2:∀ v∈a.eval y::hs2,cM w0 M ⟨m.w,m.F,m.ι,aq (l.2++xs.2) m.G⟩ v:=λv hv b hb=>by obtain⟨id,e1,ob,e2,e3,e4⟩:=q2 v hv b hb;exact d4 id (by simp[e1]) ob e2 e3 b e4
 have hcross:∀ v∈a.eval x::hs1,∀ v'∈a.eval y::hs2,∀ b,HB v b->HB v' b->False:=by intro v hv v' hv' b hb hb';obtain⟨id,e1,ob,e2,e3,e4⟩:=p2 v hv b hb;obtain⟨id',g1,ob',g2,g3,g4⟩:=q2 v' hv' b hb';have:=hi.inj id id' ob ob' b e2 e3 g2 g3 e4 g4;subst this;exact n3 id e1 g1
 have hap:cm (hs1++hs2):=by refine List.pairwise_append.2 ⟨(Jr.1 p1.apart).2,(Jr.1 q1.apart).2,λv hv v' hv' b hb hb'=>?_⟩;exact hcross v (Jq _ hv) v' (Jq _ hv') b hb hb'
 have hlen:(hs1++hs2).length=(l.1++xs.1).length:=by simp[p1.len,q1.len]
 have hinner:∀ k (h:k<(l.1++xs.1).length) v,(hs1++hs2)[k]?=some v->HdrW m.w m.F v σ (l.1++xs.1)[k]:=by
  intro k hk v hv;rw[JE]at hk;by_cases hkl:k<l.1.length
  ·rw[JM (by rw[p1.len];exact hkl)]at hv;rw[JJ hkl];exact p1.inner k hkl v hv (by simp)
  rw[K8 (by rw[p1.len];omega),p1.len]at hv;rw[JL (by omega)];exact q1.inner (k-l.1.length) (by omega) v hv (by simp)
 have hone:∀ u∈hs2,u.oneCell'=true:=λu hu=>q1.one u (Jq _ hu);have hbase:cap≠0->∃ b off c el fz,ad=some ⟨b,off,none⟩/\m.w.heap[b]?=some (.cells c el fz)/\eo (.slice σ) c.size fz/\off+cap*(Ty.slice σ).size<=c.size:=by intro hc;obtain⟨b,off,c,el,fz,e1,e2,e3,e4,_⟩:=b4 hc;exact⟨b,off,c,el,fz,e1,e2,e3,by simp only[Ty.size,Km];exact e4⟩
 have hxs:hs2.length=xs.1.length*(Ty.slice σ).size:=by simp[Ty.size,q1.len]
 have segEq:∀{c:Array Value} {off n:Nat} {hs:List Value},hs.length=n->(∀ k,k<n->c[off+k]?=hs[k]?)->hs=seg c off n:=by
  intro c off n hs e1 e2;apply Kk;intro k;by_cases hk:k<n
  ·rw[seg_getElem? _ _ _ _ hk,e2 k hk]
  rw[KG (by omega),KG];unfold seg;simp only[Kf,JU];omega
 have hxb:xs.1.length≠0->∃ b off c el fz,xd=some ⟨b,off,none⟩/\m.w.heap[b]?=some (.cells c el fz)/\off+hs2.length<=c.size/\hs2=seg c off hs2.length:=by intro hk;obtain⟨b,off,c,el,fz,e1,e2,e3,e4,e5⟩:=x4 (by omega);exact⟨b,off,c,el,fz,e1,e2,by rw[q1.len];omega,segEq rfl (λk hk=>e5 k (by rw[<- q1.len];exact hk) (by simp))⟩
 have hfresh:Heap.get (aq (l.2++xs.2) m.G) i=none:=by rw[hG];exact hfree
 have hall:∀ v∈hs1++hs2,cM w0 M ⟨m.w,m.F,m.ι,aq (l.2++xs.2) m.G⟩ v:=by
  intro v hv;rcases A4.1 hv with hv|hv
  ·exact f1 v (Jq _ hv)
  exact f2 v (Jq _ hv)
 rcases pN (ty:=o.type) (ad:=ad) (xd:=xd) (xcap:=xcap) (n:=l.1.length) hu hck m.w b2 hbase hxs hone hxb hlim with⟨c1,c2,c3,hrun⟩|⟨c1,c2,hrun⟩|⟨olds,cells,cap',c1,c2,c3,c4,c5,⟨rest,c6⟩,hrun⟩
 ·have e1:l.1=[]:=Jp c3;have e2:xs.1=[]:=Jp c2;have e3:hs1=[]:=Jp (by rw[p1.len,c3]);have hub:a.eval x=.slice ad 0 0:=by rw[b1,c3,c1]
  have hnb:∀ b,¬HB (.slice ad 0 0) b:=λb hb=>by cases ad<;>simp[HB,HB1]at hb
  obtain⟨m',r1,r2,r3,r4,r5,r6,r7⟩:=gP (m:=⟨m.w,m.F,m.ι,aq (l.2++xs.2) m.G⟩) d1 (i:=i) hfresh (u:=.slice ad 0 0) (hs:=[]) (τ:=σ) (l:=[]) ⟨rfl,⟨ad,0,rfl,by simp,by unfold maxLen;omega,λh=>absurd rfl h⟩,by intro i hi;simp at hi,(by intro i v hi;cases hi),JI _ _⟩ (λv hv b hb=>by simp at hv;subst hv;exact absurd hb (hnb b));refine Does.value (w':=m'.w) (v:=.slice ad 0 0) ?_ ⟨m',.av (.ownd i),rfl,?_,r5,d2.trans r6,(ao (a:=.ownd i) (by intros;simp)).2 r7⟩
  ·rw[c3,c1,c2]at hrun;simp[execOp,ho,resolve,invoke,builtin,hub,x1,c2,hrun,r1]
  rw[<- h,r3,hG,e1,e2];rfl
 ·obtain⟨b,off,c,el,fz,rfl,g2,g3,g4,g5⟩:=b4 c1;have hrun:=hrun b off c el fz rfl g2;simp only[Ty.size,Km]at hrun;have hfit:off+l.1.length+hs2.length<=c.size:=by rw[q1.len];omega
  have hub:∀ b',HB (a.eval x) b'->b'=b:=λb' hb'=>by rw[b1]at hb';exact hb'.2.symm
  have hbx:HB (a.eval x) b:=by rw[b1];exact⟨c1,rfl⟩
  obtain⟨fb1,fb2,fb3,fb4⟩:=f1 _ (JH ..) b hbx;have hw:=cd m.w b (aM c (off+l.1.length) hs2);obtain⟨s1,s2⟩:=rD (m:=⟨m.w,m.F,m.ι,aq (l.2++xs.2) m.G⟩) d1 (w1:=m.w.setRow b (aM c (off+l.1.length) hs2)) (Mc:=λb'=>b'=b) ⟨hw.os,hw.tape,hw.output,by rw[hw.size];exact B2 _,λk _ hk=>hw.block k hk⟩ (λb' hb'=>by subst hb';exact⟨fb1,fb2,fb4⟩);have hF:∀ b',m.F b'->m.F b'/\(m.w.setRow b (aM c (off+l.1.length) hs2)).heap[b']?=m.w.heap[b']?:=λb' hb'=>⟨hb',hw.block b' (λe=>fb2 (e▸hb'))⟩;have hheap:(m.w.setRow b (aM c (off+l.1.length) hs2)).heap[b]?=some (.cells (aM c (off+l.1.length) hs2) el fz):=setRow_heap m.w b c _ el fz g2;have hnb:∀ v∈hs1++hs2,¬HB v b:=by
   intro v hv hb';rcases A4.1 hv with hv|hv
   ·exact(Jr.1 p1.apart).1 v hv b hbx hb'
   exact hcross _ (JH ..) v (Jq _ hv) b hbx hb'
  have hd:DeepW (m.w.setRow b (aM c (off+l.1.length) hs2)) m.F (.slice (some ⟨b,off,none⟩) (l.1.length+xs.1.length) cap) (hs1++hs2) σ (l.1++xs.1) none:=by
   refine⟨hlen,⟨_,cap,by simp,by simpa using c2,b3,λ_=>⟨b,off,_,el,fz,rfl,hheap,by rw[bw _ _ _ hfit];exact g3,by rw[bw _ _ _ hfit];exact g4,λk hk _=>?_⟩⟩,λk hk v hv _=>?_,λk v hk=>(by cases hk),?_⟩
   ·rw[dq _ _ _ hfit];rw[JE]at hk;by_cases hkl:k<l.1.length
    ·rw[if_neg (by omega),JM (by rw[p1.len];exact hkl)];exact g5 k hkl (by simp)
    rw[if_pos (by rw[q1.len];omega),K8 (by rw[p1.len];omega),p1.len];congr 1;omega
   ·refine(hinner k hk v hv).mono hF (λb' hb'=>hw.block b' (λe=>?_));subst e;exact hnb v (Jv hv) hb'
   refine K4 (λv hv b' hb1 hb2=>?_) hap;have:b'=b:=hb1.2.symm;subst this;exact hnb v hv hb2
  obtain⟨m',r1,r2,r3,r4,r5,r6,r7⟩:=gP (m:=⟨m.w.setRow b (aM c (off+l.1.length) hs2),m.F,m.ι,aq (l.2++xs.2) m.G⟩) s1 (i:=i) hfresh hd (λv hv b' hb'=>by
   have:∃ v',(v'=a.eval x\/v'∈hs1++hs2)/\HB v' b':=by
    rcases A8.1 hv with rfl|hv
    ·exact⟨_,.inl rfl,by rw[b1];exact⟨c1,hb'.2⟩⟩
    exact⟨v,.inr hv,hb'⟩
   obtain⟨v',hv',hb'⟩:=this;have hfr:cM w0 M ⟨m.w,m.F,m.ι,aq (l.2++xs.2) m.G⟩ v':=by
    rcases hv' with rfl|hv'
    ·exact f1 _ (JH ..)
    exact hall v' hv'
   obtain⟨k1,k2,k3,k4⟩:=hfr b' hb';exact⟨k1,k2,by show b'<(m.w.setRow b _).heap.size;rw[hw.size];exact k3,k4⟩)
  refine Does.value (w':=m'.w) (v:=.slice (some ⟨b,off,none⟩) (l.1.length+xs.1.length) cap) ?_ ⟨m',.av (.ownd i),rfl,?_,r5,(d2.trans s2).trans r6,(ao (a:=.ownd i) (by intros;simp)).2 r7⟩
  ·simp[execOp,ho,resolve,invoke,builtin,b1,x1,hrun,r1]
  rw[<- h,r3,hG]
 simp only[Ty.size,Km]at c1 c2 c5;have holds:olds=hs1:=by
  by_cases hl0:l.1.length=0
  ·have e1:hs1=[]:=Jp (by rw[p1.len,hl0]);have e2:olds=[]:=Jp (by rw[c1,hl0]);rw[e1,e2]
  obtain⟨b,off,c,el,fz,rfl,g2,g3,g4,g5⟩:=b4 (by omega);rw[c2 hl0 b off c el fz rfl g2];exact(segEq p1.len (λk hk=>g5 k hk (by simp))).symm
 subst holds;obtain⟨m',r1,r2,r3,r4,r5⟩:=qz (m:=⟨m.w,m.F,m.ι,aq (l.2++xs.2) m.G⟩) (τ:=σ) (l:=l.1++xs.1) (hs:=olds++hs2) (cap:=cap') (fz:=(0,0)) d1 (i:=i) hfresh (w1:=m.w.drew.alloc (.cells cells et)) (eE m.w _) (c:=cells) (el:=et)
  (b0 m.w.drew _) (.inl (B2 _)) (by rw[JE];exact c3) c4 (by omega) hlen (λk hk=>by
   rw[<- JN,c6,JM (by rw[hlen];exact hk)]) hinner hap hall
 refine Does.value (w':=m'.w) (v:=.slice (some ⟨m.w.heap.size,0,none⟩) (l.1.length+xs.1.length) cap') ?_ ⟨m',.av (.ownd i),rfl,?_,r3,d2.trans r4,by rw[JE]at r5;exact r5⟩
 ·simp[execOp,ho,resolve,invoke,builtin,b1,x1,hrun,r1]
 rw[<- h,r2,hG]
theorem rp (hi:Inv C w0 M m)(site:Nat){v:SV}{u:Value}(hr:RelSV m u v) :
  ∃ m1,m1.w=m.w/\m1.F=m.F/\m1.G=(bD site m.G v).2/\Inv C w0 M m1/\Evo m m1/\RelSV m1 u (bD site m.G v).1:=by
 have same {v:SV} (hr:RelSV m u v) (h:bD site m.G v=(v,m.G)):∃ m1,m1.w=m.w/\m1.F=m.F/\m1.G=(bD site m.G v).2/\Inv C w0 M m1/\Evo m m1/\RelSV m1 u (bD site m.G v).1:=by rw[h];exact⟨m,rfl,rfl,rfl,hi,Evo.refl m,hr⟩
 cases v with
 |av at'=>
  cases at' with
  |sub id ver j=>
   obtain⟨_,ob,hob,hv⟩:=(ao (m:=m) (a:=.sub id ver j) (by intros;simp)).1 hr;cases ob with
   |deep ver' σ l hole=>
    cases hole with
    |some _=>exact same hr (by simp[bD,hob])
    |none=>
     cases hc:(A7 ver ver' && !m.G.has (ar 64 m.G site))with
     |false=>exact same hr (by simp only[bD,hob,hc,UB])
     |true=>
      have hc':=hc;simp only[np,Jw]at hc';obtain⟨hver,hfr⟩:=hc';have:=A3 hver;subst this;obtain⟨hj,_,hu⟩:=hv.2 rfl;obtain⟨m1,a1,a2,a3,a4,a5,a6⟩:=vi hi hob hj (fA hfr) hu;have e:bD site m.G (.av (.sub id ver j))=(.av (.own (ar 64 m.G site)),(ar 64 m.G site,.arr σ l[j])::(id,.deep (ver+1) σ l (some j))::m.G):=by simp only[bD,hob,hc,UA,jZ hj]
      rw[e];exact⟨m1,a1,a2,a3,a4,a5,(ao (a:=.own _) (by intros;simp)).2 a6⟩
   |_=>exact same hr (by simp[bD,hob])
  |_=>exact same hr rfl
 |_=>exact same hr rfl
theorem Ah(z:Array Value):∀ n,((Kb (n*z.size)).map (z[· % z.size]!)).toList=(A5 n z.toList).flatten:=by
 intro n;simp only[LB,Array.toList_range];induction n with
 |zero=>simp
 |succ n ih=>
  have hr:A5 (n+1) z.toList=A5 n z.toList++[z.toList]:=by rw[List.replicate_succ']
  rw[hr,List.flatten_append,<- ih,B8,L0,List.range_add,List.map_append];congr 1;simp only[ME,KL,List.flatten_nil,Jz];apply List.ext_getElem
  ·simp
  intro i h1 h2;have hi:i<z.size:=by simpa using h1
  have e:(n*z.size+i)%z.size=i:=by rw[KX,LK,Mq hi]
  simp[e,hi]
theorem qN {t ti ty e:TypeId}{n:Nat}{ky:IntKind}{inf:TypeInfo}{zv:Value}(hu:P.underlying t=some (.slice e))(hi:P.underlying ti=some (.int .i64))(h1:P.info? e=some inf)(h3:inf.bytes<=100000)(h4:inf.zero=some zv)(w:World)(h0:1<=n)(hlim:n<=1000000)(hz:1<=inf.size) :
  (Builtin.append_ #[t,ti] ty #[.slice none 0 0,.int ky (n:Int)]).run P w=.ok (.slice (some ⟨w.heap.size,0,none⟩) n (grownCap w n 0 e)) (w.drew.alloc (.cells (Builtin.zeroCells zv.cells n++Builtin.zeroCells zv.cells (grownCap w n 0 e-n)) e)):=by
 have hw:IntKind.i64.wrap (n:Int)=n:=IntWalk.i64_in _ (by omega);have hb:(n:Int)*inf.bytes<=100000000000:=by have h1:n*inf.bytes<=1000000*100000:=K5 hlim h3;have h2:((n*inf.bytes:Nat):Int)=(n:Int)*inf.bytes:=Int.natCast_mul _ _;omega
 have h48:(2:Int)^48=281474976710656:=by decide
 have n1:¬(281474976710656<(n:Int)*inf.bytes):=by omega
 have n2:¬((n:Int)<0):=by omega
 have hn0:n≠0:=by omega
 have hns:¬(n*inf.size=0):=by
  intro e;rcases Mv.1 e with h|h<;>omega
 have h63':¬(9223372036854775807<(n:Int)):=by omega
 have h48':¬(281474976710656<Builtin.nextslicecap n 0*inf.bytes):=by rw[nextslicecap_zero (by omega)];have h1:n*inf.bytes<=1000000*100000:=K5 hlim h3;omega
 simp[Builtin.append_,run_underlying hu,run_underlying hi,sizeOf,typeInfo,zeroValue,h1,h4,asInt,asIntOf,hw,n1,n2,hn0,hns,h63',h48',Question.forced,run_firstCells_none,newRow,grownCap,Int.not_lt.2 (Int.natCast_nonneg n),Nat.ne_of_gt hz]
theorem tv{α:Type}(z rest:List α):∀(n j:Nat),j<n->(((A5 n z).flatten++rest).drop (j*z.length)).take z.length=z
 |n+1,0,_=>by rw[Lw,KL,Nat.zero_mul,K6,Jm,List.take_left]
 |n+1,j+1,h=>by rw[Lw,KL,B8,L0,KX,Jm,<- LH,KT];exact tv z rest n j (by omega)
theorem oW {t t':TypeId}{x y:Operand}{e:Ty}{k:IntKind}{n:Nat}(hT:cb P C.tab=true)(hi:Inv C w0 M m)(hG:m.G=s.G)(hS:∀ x,RelSV m (a.eval x) (ah C s.env x))
  (ho:o.op=.call { callee:=.builtin .append,args:=#[x,y],argTypes:=#[t,t'] }) (ht:C.tab.get t=some (.slice e)) (ht':C.tab.get t'=some (.int .i64))
  (hx:ah C s.env x=.av (.nils true)) (hy:ah C s.env y=.av (.val (.int k) (n:Int))) (h0:1<=n) (hlim:n<=1000000) (hz:1<=e.size)
  (h:bj s (o.dst.getD 0) (.arr e (A5 n (bk e))) (λi s2=>some (ag o.dst (.av (.own i)) s2))=some s'):Does P o a m.w (Res C w0 M m s s' o.dst):=by
 obtain⟨i,hfree,h⟩:=bM h;simp only[aw]at h;obtain⟨et,hu,hck⟩:=aT (aj hT ht);obtain⟨inf,z,r1,r2,r3,r4,r5,r6,r7⟩:=dn hck;obtain⟨z0,ez,hz0,_⟩:=dO (m:=m) (lf (aj hT ht)) r5;rw[Jz]at ez;have hzs:z.cells.toList.length=e.size:=by rw[ez];exact hz0.len
 have hzs':z.cells.size=e.size:=by rw[<- JD];exact hzs
 have hxv:=hS x;rw[hx]at hxv;obtain⟨ad,hxv,hd⟩:=hxv;rw[hd rfl]at hxv;have hyv:=hS y;rw[hy]at hyv;obtain⟨hyv,_,_⟩:=cF hyv;have hge:=grownCap_ge m.w (0+n) 0 et;have hcm:grownCap m.w (0+n) 0 et<=maxLen:=grownCap_le_maxLen _ _ _ _ (by unfold maxLen;omega);rw[JP]at hge hcm;have hrun:=qN (P:=P) (ty:=o.type) (ky:=k) hu (iS (aj hT ht')) r1 (by omega) r4 m.w h0 hlim (by rw[r2];exact hz);have hl:(Builtin.zeroCells z.cells n++Builtin.zeroCells z.cells (grownCap m.w n 0 et-n)).toList=(A5 n z.cells.toList).flatten++(Builtin.zeroCells z.cells (grownCap m.w n 0 et-n)).toList:=by rw[Array.toList_append];congr 1;exact Ah z.cells n
 have hsz:(Builtin.zeroCells z.cells n++Builtin.zeroCells z.cells (grownCap m.w n 0 et-n)).size=grownCap m.w n 0 et*e.size:=by simp only[K7,size_zeroCells,hzs',<- B8];congr 1;omega
 obtain⟨m',p1,p2,p3,p4,p5⟩:=lz (τ:=e) (l:=A5 n (bk e)) (cap:=grownCap m.w n 0 et) (fz:=(0,0)) hi (i:=i) (by rw[hG];exact hfree)
  (w1:=m.w.drew.alloc (.cells (Builtin.zeroCells z.cells n++Builtin.zeroCells z.cells (grownCap m.w n 0 et-n)) et)) (eE m.w _)
  (b0 m.w.drew _) (.inl (B2 _)) (by rw[J8];exact hge) hcm (by rw[hsz];exact B2 _) (λj hj=>by
   rw[J8]at hj;rw[KC];have:seg (Builtin.zeroCells z.cells n++Builtin.zeroCells z.cells (grownCap m.w n 0 et-n)) (j*e.size) e.size=z0:=by unfold seg;rw[hl,<- hzs,tv _ _ n j hj,ez]
   rw[this];exact hz0)
 refine Does.value (w':=m'.w) (v:=.slice (some ⟨m.w.heap.size,0,none⟩) n (grownCap m.w n 0 et)) ?_ ⟨m',.av (.own i),rfl,?_,p3,p4,by rw[J8]at p5;exact p5⟩
 ·simp[execOp,ho,resolve,invoke,builtin,hxv,hyv,hrun,p1]
 rw[<- h,p2,hG]
theorem zw {args:Array Operand}{ats:Array TypeId}(hT:cb P C.tab=true)(hi:Inv C w0 M m)(hG:m.G=s.G)(hS:∀ x,RelSV m (a.eval x) (ah C s.env x))
  (ho:o.op=.call { callee:=.builtin .append,args,argTypes:=ats })
  (h:aZ C o s some=some s'):Does P o a m.w (Res C w0 M m s s' o.dst):=by
 simp only[au,aK,ho]at h;split at h
 ·rename_i t t' x y hat har;have ha1:args=#[x,y]:=by rw[<- JT (xs:=args),har]
  have ha2:ats=#[t,t']:=by rw[<- JT (xs:=ats),hat]
  subst ha1;subst ha2;split at h
  ·rename_i e ht;cases htt:A7 t t' with
   |false=>
    rw[htt]at h;simp only[UB]at h;split at h
    ·rename_i k n ht' hx hy;cases hc:(decide (1<=n)&&decide (n<=1000000)&&JK 1 e.size)with
     |false=>rw[hc]at h;cases h
     |true=>rw[hc]at h;simp only[np,decide_eq_true_eq]at hc;obtain⟨⟨h1,h2⟩,h3⟩:=hc;have key:∀ n:Int,1<=n->n<=1000000->∃ j:Nat,n=j/\1<=j/\j<=1000000:=λn h1 h2=>⟨n.toNat,by omega,by omega,by omega⟩;obtain⟨j,rfl,j1,j2⟩:=key n h1 h2;exact oW hT hi hG hS ho ht ht' hx hy j1 j2 (JF h3) h
    cases h
   |true=>
    rw[htt]at h;simp only[UA]at h;have htt:=A3 htt;subst htt;cases hnd:ka (ah C s.env y)with
    |true=>
     rw[hnd]at h;simp only[UA]at h;split at h
     ·rename_i σ _;split at h
      ·rename_i l xs hl hx;obtain⟨r,hr,h⟩:=A6.1 h;cases hn:aH (l.2++xs.2)with
       |false=>rw[hn]at h;simp at h
       |true=>rw[hn]at h;exact qC hT hi hG hS ho ht hl hx hr hn h
      simp at h
     simp at h
    |false=>
     rw[hnd]at h;simp only[UB]at h;split at h
     ·rename_i l y0 xs hcut hsv;obtain⟨r,hr,h⟩:=A6.1 h;exact qS hT hi hG hS ho ht hnd hcut hsv (by simp) hr h
     ·simp at h
     rename_i hcut;split at h
     ·rename_i l ids xs hbase hsv;obtain⟨r,hr,h⟩:=A6.1 h;obtain⟨m1,a1,a2,a3,a4,a5,a6⟩:=rp hi (o.dst.getD 0) (hS x);rw[<- hG]at hbase h;obtain⟨hH,hids⟩:=kS (s:=⟨s.env,(bD (o.dst.getD 0) m.G (ah C s.env x)).2⟩) a4 a3 hbase a6;have hN:=kM hi hnd (hG▸hsv) (hS y);have:=qI (s:=⟨s.env,(bD (o.dst.getD 0) m.G (ah C s.env x)).2⟩) (s':=s') (o:=o) (a:=a) hT a4 a3 ho ht hH hids (by rw[a1,a2];exact hN) hr h;rw[a1]at this;intro K Q hK;refine this K Q λv w' hR=>hK v w' ?_;obtain⟨m',sv,k1,k2,k3,k4,k5⟩:=hR;exact⟨m',sv,k1,k2,k3,a5.trans k4,k5⟩
     simp at h
  simp at h
 simp at h
end
end Go.Vm

/-
 The machine's operations against the model's: clear.
-/
namespace Go.Vm
section
variable {P:Program}{C:Ctx}{w0:World}{M:Own}{o:Oper}{a:Act}{m:Mem}{s s':St}
theorem Dz {args:Array Operand}{ats:Array TypeId}(hT:cb P C.tab=true)(hi:Inv C w0 M m)(hG:m.G=s.G)(hS:∀ x,RelSV m (a.eval x) (ah C s.env x))
  (ho:o.op=.call { callee:=.builtin .clear,args,argTypes:=ats })
  (h:aZ C o s some=some s'):Does P o a m.w (Res C w0 M m s s' o.dst):=by
 simp only[au,aK,ho]at h;split at h
 ·rename_i t x hat har;have ha1:args=#[x]:=by rw[<- JT (xs:=args),har]
  have ha2:ats=#[t]:=by rw[<- JT (xs:=ats),hat]
  subst ha1;subst ha2;have hx:=hS x;split at h
  ·rename_i e id off len ht hv;rw[hv]at hx;obtain⟨_,ob,hob,hxv⟩:=(ao (m:=m) (a:=.view id off len) (by intros;simp)).1 hx;rw[hG]at hob;split at h
   ·rename_i σ l hg;rw[hg]at hob;simp only[aw]at hob;subst hob;cases hc:(decide (e=σ)&&JK (off+len) l.length&&JK 1 len)with
    |false=>rw[hc]at h;simp at h
    |true=>
     rw[hc]at h;simp only[UA,aw]at h;simp only[np,decide_eq_true_eq]at hc;obtain⟨⟨rfl,c2⟩,c3⟩:=hc;have c2:=JF c2;have c3:=JF c3;obtain⟨et,hu,hck⟩:=aT (aj hT ht);obtain⟨inf,z,r1,r2,r3,r4,r5,r6,r7⟩:=dn hck;obtain⟨z0,ez,hz0,_⟩:=dO (m:=m) (lf (aj hT ht)) r5;rw[Jz]at ez;have hzs:z.cells.size=e.size:=by rw[<- JD,ez];exact hz0.len
     obtain⟨b,o',cap,c,el,fz,q1,q2,q3,q4,q5,q6,q7,q8,q9⟩:=mp hi (hG▸hg) (j:=off) (by omega);simp only at hxv;obtain⟨_,ad1,n1,cap1,ad2,k1,k2,k3⟩:=hxv;rw[q1]at k1;simp only[Value.slice.injEq]at k1;obtain⟨rfl,rfl,rfl⟩:=k1;have k3:=k3 (by omega);simp only[KB,bK]at k3;subst k3;have hle:off*e.size+len*e.size<=l.length*e.size:=by rw[<- B8];exact B1 _ c2
     have hle2:l.length*e.size<=cap*e.size:=B1 _ q2;obtain⟨vs,hvs⟩:∃ vs,vs=(Builtin.zeroCells z.cells len).toList:=⟨_,rfl⟩;have hvl:vs.length=len*e.size:=by rw[hvs,JD,size_zeroCells,hzs]
     have hseg:∀ i,i<len->(vs.drop (i*e.size)).take e.size=z0:=by
      intro i hi';by_cases hz:e.size=0
      ·have:z0=[]:=by have:=hz0.len;rw[hz]at this;exact Jp this
       rw[this,hz];simp
      have:=w8 z.cells (by omega) len i hi';rw[hzs]at this;rw[hvs];unfold Builtin.zeroCells;rw[hzs];unfold seg at this;rw[this,ez]
     have hone:∀ v∈vs,v.oneCell'=true:=by
      intro v hv;obtain⟨j,hj⟩:=J7.1 hv;have hjl:j<vs.length:=(A2.1 hj).1;have hs:0<e.size:=by
       rcases Ku e.size with h0|h0
       ·rw[hvl,h0,MI]at hjl;omega
       exact h0
      have hd:j/e.size<len:=by rw[LX hs];omega
      have:=hseg (j/e.size) hd;refine hz0.one v ?_;rw[<- this,J7];refine⟨j%e.size,?_⟩;rw[JC,if_pos (Mw _ hs),J2,L6,Mx];exact hj
     have hin:o'+off*e.size+vs.length<=c.size:=by omega
     have hst:=cH (P:=P) b (o'+off*e.size) el fz vs 0 c m.w q4 q5 (by omega) hone;simp only[JY]at hst;have hst:(storeCells ⟨b,o'+off*e.size,none⟩ vs).run P m.w=.ok () (m.w.setRow b (aM c (o'+off*e.size) vs)):=hst;have hzv:(zeroValue et).run P m.w=.ok z m.w:=by simp[zeroValue,typeInfo,r1,r4]
     obtain⟨n,rfl⟩:∃ n,len=n+1:=⟨len-1,by omega⟩;have hrun:(Builtin.clear_ #[t] o.type #[.slice (some ⟨b,o'+off*e.size,none⟩) (n+1) (cap-off)]).run P m.w=.ok (.tuple #[]) (m.w.setRow b (aM c (o'+off*e.size) vs)):=by simp[Builtin.clear_,run_underlying hu,hzv,<- hvs,hst]
     have hheap:(m.w.setRow b (aM c (o'+off*e.size) vs)).heap[b]?=some (.cells (aM c (o'+off*e.size) vs) el fz):=setRow_heap m.w b c _ el fz q4;have hblk:HB (m.ι id) b:=by rw[q1];simp[HB,HB1,q3]
     have hcl:(fw e l off (n+1)).length=l.length:=by unfold fw;simp;omega
     obtain⟨g1,g2⟩:=di hi (hG▸hg:m.G.get id=some (.arr e l)) rfl hblk (o':=.arr e (fw e l off (n+1))) ⟨rfl,hcl.symm⟩ (cd m.w b (aM c (o'+off*e.size) vs)) (λhe=>by
      refine⟨some ⟨b,o',none⟩,cap,by rw[hcl];exact q1,by rw[hcl];exact q2,q9,λ_=>⟨b,o',_,el,fz,rfl,hheap,by rw[bw _ _ _ hin];exact q5,by rw[bw _ _ _ hin];exact q6,λi hi'=>?_⟩⟩;refine Rd.mono he.fro ?_;rw[hcl]at hi';by_cases h1:i<off
      ·have hm:i*e.size+e.size<=off*e.size:=by have:=B1 e.size (show i+1<=off from h1);rw[B8]at this;omega
       rw[ca _ _ _ hin _ _ (.inl (by omega))];have e1:(fw e l off (n+1))[i]'(by rw[hcl];exact hi')=l[i]:=by unfold fw;rw[JJ (by simp;omega),LD]
       rw[e1];exact q8 i hi'
      by_cases h2:i<off+(n+1)
      ·have e1:(fw e l off (n+1))[i]'(by rw[hcl];exact hi')=bk e:=by unfold fw;rw[JL (by simp;omega),JJ (by simp;omega),KC]
       have hd:i-off<n+1:=by omega
       have hmi:i*e.size=off*e.size+(i-off)*e.size:=by rw[<- B8];congr 1;omega
       have hme:(i-off)*e.size+e.size<=(n+1)*e.size:=by have:=B1 e.size (show i-off+1<=n+1 from hd);rw[B8 (i-off) 1]at this;omega
       rw[e1,hmi,<- JX,iR _ _ _ hin _ _ (by omega),hseg _ hd];exact hz0
      have hm:off*e.size+(n+1)*e.size<=i*e.size:=by rw[<- B8];exact B1 _ (by omega)
      rw[ca _ _ _ hin _ _ (.inr (by omega))];have e1:(fw e l off (n+1))[i]'(by rw[hcl];exact hi')=l[i]:=by unfold fw;rw[JL (by simp;omega),JL (by simp;omega),Md];congr 1;simp;omega
      rw[e1];exact q8 i hi')
     refine Does.value (w':=m.w.setRow b (aM c (o'+off*e.size) vs)) (v:=.tuple #[]) ?_ ⟨_,.tup [],rfl,?_,g1,g2,⟨[],rfl,trivial⟩⟩
     ·simp[execOp,ho,resolve,invoke,builtin,k2,hrun]
     rw[<- h];unfold setObj;rw[<- hG]
   simp at h
  simp at h
 simp at h
theorem zU(hi:Inv C w0 M m){G':Heap}(h:∀ id,G'.get id=m.G.get id):Inv C w0 M ⟨m.w,m.F,m.ι,G'⟩/\Evo m ⟨m.w,m.F,m.ι,G'⟩:=by
 have he:Evo m ⟨m.w,m.F,m.ι,G'⟩:=⟨λb hb=>⟨hb,rfl⟩,λid o ho=>⟨o,by show G'.get id=_;rw[h];exact ho,.inr (Goon.refl _ o)⟩⟩;refine⟨⟨hi.kept,?_,?_,?_,hi.fro,λg τ x hg=>(hi.glob g τ x hg).mono he.fro,hi.bnd,bI he hi.pin⟩,he⟩
 ·intro id o ho;exact bL he rfl (λ_ _=>rfl) (hi.objs id o (by rw[<- h];exact ho))
 ·intro id o b ho;exact hi.own id o b (by rw[<- h];exact ho)
 intro i j o p b ho hoo hp;exact hi.inj i j o p b (by rw[<- h];exact ho) hoo (by rw[<- h];exact hp)
theorem sJ{α:Type}(l ys:List α):(kK l ys).length=l.length:=by unfold kK;simp;omega
theorem EN {args:Array Operand}{ats:Array TypeId}(hT:cb P C.tab=true)(hi:Inv C w0 M m)(hG:m.G=s.G)(hS:∀ x,RelSV m (a.eval x) (ah C s.env x))
  (ho:o.op=.call { callee:=.builtin .copy,args,argTypes:=ats })
  (h:aZ C o s some=some s'):Does P o a m.w (Res C w0 M m s s' o.dst):=by
 simp only[au,aK,ho]at h;split at h
 ·rename_i t t' x y hat har;have ha1:args=#[x,y]:=by rw[<- JT (xs:=args),har]
  have ha2:ats=#[t,t']:=by rw[<- JT (xs:=ats),hat]
  subst ha1;subst ha2;have hx:=hS x;have hy:=hS y;split at h
  ·rename_i e id ht hv;rw[hv]at hx;obtain⟨_,ob,hob,hxv⟩:=(ao (m:=m) (a:=.own id) (by intros;simp)).1 hx;rw[hG]at hob;split at h
   ·rename_i σ l hg;rw[hg]at hob;simp only[aw]at hob;subst hob;cases hc:(decide (e=σ) && !ka (ah C s.env y))with
    |false=>rw[hc]at h;simp at h
    |true=>
     rw[hc]at h;simp only[UA]at h;simp only[np,decide_eq_true_eq,Jw]at hc;obtain⟨rfl,hnd⟩:=hc;split at h
     ·rename_i ys hys;simp only[aw]at h;obtain⟨et,hu,hck⟩:=aT (aj hT ht);obtain⟨inf,z,r1,r2,r3,r4,r5,r6,r7⟩:=dn hck;have hsz:∀ w:World,(sizeOf et).run P w=.ok e.size w:=λw=>bt hck w;obtain⟨xd,xcap,news,y1,y2,y3,y4⟩:=kM hi hnd (hG▸hys) hy;obtain⟨a0,cap,d1,d2,d3,d4⟩:=hi.objs id _ (hG▸hg);have hxe:a.eval x=.slice a0 l.length cap:=by rw[hxv rfl,d1]
      obtain⟨n,hn⟩:∃ n,n=min ys.length l.length:=⟨_,rfl⟩;have hmi:de (ys.length:Nat) (l.length:Nat)=(n:Int):=by unfold de;split<;>omega
      have hnl:(n:Int)<=IntKind.i64.max:=by
       have h63:maxLen=9223372036854775807:=by decide
       have h64:IntKind.i64.max=9223372036854775807:=by decide
       rw[h64];omega
      have hres:∀ m':Mem,RelSV m' (goInt (n:Nat)) (.av (.val (.int .i64) (n:Int))):=λm'=>
       dT ⟨by have h65:IntKind.i64.min=-9223372036854775808:=(by decide);rw[h65];omega,hnl⟩
      rw[hmi]at h;have hnm:Nat.min ys.length l.length=n:=hn.symm;by_cases hz:n=0
      ·have hcl:kK l ys=l:=by
        unfold kK;rcases Nat.lt_or_ge 0 ys.length with h0|h0
        ·have:l=[]:=Jp (by omega);subst this;simp
        have:ys=[]:=Jp (by omega);subst this;simp
       rw[hcl]at h;obtain⟨g1,g2⟩:=zU hi (G':=(id,.arr e l)::m.G) (λi=>by
        rw[Heap.get_cons];split
        ·rename_i hii;subst hii;exact(hG▸hg:m.G.get id=_).symm
        rfl)
       have hrun:(Builtin.copy_ #[t,t'] o.type #[.slice a0 l.length cap,.slice xd ys.length xcap]).run P m.w=.ok (goInt (n:Nat)) m.w:=by rw[hz]at hnm;rw[hz];cases a0<;>cases xd<;>simp[Builtin.copy_,run_underlying hu,hsz,Builtin.lenOf,hnm,Builtin.firstCells,loadCells,loadCellsFrom,storeCells]
       refine Does.value (w':=m.w) (v:=goInt (n:Nat)) ?_ ⟨_,_,?_,?_,g1,g2,hres _⟩
       ·simp[execOp,ho,resolve,invoke,builtin,hxe,y1,hrun]
       ·rfl
       rw[<- h];unfold setObj;rw[<- hG]
      have hl0:l≠[]:=by intro e;subst e;simp at hn;omega
      have hy0:ys≠[]:=by intro e;subst e;simp at hn;omega
      have hcap:cap≠0:=by have:0<l.length:=Kn.2 hl0;omega
      obtain⟨b,off,c,el,fz,rfl,q1,q2,q3,q4⟩:=d4 hcap;obtain⟨xb,xo,xc,xe,xf,rfl,p1,p2,p3⟩:=y4 hy0;obtain⟨k1,k2⟩:=y2;obtain⟨vs,hvs⟩:∃ vs,vs=news.take (n*e.size):=⟨_,rfl⟩;have hle:n*e.size<=ys.length*e.size:=B1 _ (by omega);have hle2:n*e.size<=l.length*e.size:=B1 _ (by omega);have hle3:l.length*e.size<=cap*e.size:=B1 _ d2;have hvl:vs.length=n*e.size:=by rw[hvs,Kf];omega
      have hone:∀ v∈vs,v.oneCell'=true:=λv hv=>nT ⟨k1,k2⟩ v (JV (hvs▸hv));have hin:off+vs.length<=c.size:=by omega
      have hfc:=run_firstCells_some (P:=P) m.w e.size n ⟨xb,xo,none⟩ ys.length xcap vs hvl (λj u hj=>by
       have hjl:j<n*e.size:=by have:=(A2.1 hj).1;omega
       rw[hvs,JC,if_pos hjl]at hj;rw[bK,cC p1,<- seg_getElem? xc _ news.length j (by omega),<- p3];exact hj)
      have hst:=cH (P:=P) b off el fz vs 0 c m.w q1 q2 (by omega) hone;simp only[JY]at hst;have hst:(storeCells ⟨b,off,none⟩ vs).run P m.w=.ok () (m.w.setRow b (aM c off vs)):=hst;have hrun:(Builtin.copy_ #[t,t'] o.type #[.slice (some ⟨b,off,none⟩) l.length cap,.slice (some ⟨xb,xo,none⟩) ys.length xcap]).run P m.w=.ok (goInt (n:Nat)) (m.w.setRow b (aM c off vs)):=by simp only[Builtin.copy_,Jy,Ju,JG,Sem.run_bind,run_underlying hu,Result.andThen_ok,Builtin.lenOf,Sem.run_pure,hsz,hnm,hfc,hst]
      have hny:n<=ys.length:=by omega
      have hseg:∀ i (hi':i<n),Rd m.w m.F e ((vs.drop (i*e.size)).take e.size) (ys[i]'(JQ hi' hny)):=by
       intro i hi';have:=k2 i (by omega);rw[hvs,K3,List.take_take];have hmi:min e.size (n*e.size-i*e.size)=e.size:=by have:=B1 e.size (show i+1<=n from hi');rw[B8]at this;omega
       rw[hmi];exact this
      have hblk:HB (m.ι id) b:=by rw[d1];simp[HB,HB1,hcap]
      have hcl:=sJ l ys;obtain⟨g1,g2⟩:=di hi (hG▸hg:m.G.get id=some (.arr e l)) rfl hblk (o':=.arr e (kK l ys)) ⟨rfl,hcl.symm⟩ (cd m.w b (aM c off vs)) (λhe=>by
       refine⟨some ⟨b,off,none⟩,cap,by rw[hcl];exact d1,by rw[hcl];exact d2,d3,λ_=>⟨b,off,_,el,fz,rfl,setRow_heap m.w b c _ el fz q1,by rw[bw _ _ _ hin];exact q2,by rw[bw _ _ _ hin];exact q3,λi hi'=>?_⟩⟩;refine Rd.mono he.fro ?_;rw[hcl]at hi';by_cases h1:i<n
       ·have hm:i*e.size+e.size<=n*e.size:=by have:=B1 e.size (show i+1<=n from h1);rw[B8]at this;omega
        have hiy:i<ys.length:=by omega
        have e1:(kK l ys)[i]'(by rw[hcl];exact hi')=ys[i]:=by unfold kK;rw[JJ (by simp;omega),LD]
        rw[e1,iR _ _ _ hin _ _ (by omega)];exact hseg i h1
       have hm:n*e.size<=i*e.size:=B1 _ (by omega);rw[ca _ _ _ hin _ _ (.inr (by omega))];have hyn:ys.length=n:=by omega
       have e1:(kK l ys)[i]'(by rw[hcl];exact hi')=l[i]:=by unfold kK;rw[JL (by simp;omega),Md];congr 1;simp;omega
       rw[e1];exact q4 i hi')
      refine Does.value (w':=m.w.setRow b (aM c off vs)) (v:=goInt (n:Nat)) ?_ ⟨_,_,rfl,?_,g1,g2,hres _⟩
      ·simp[execOp,ho,resolve,invoke,builtin,hxe,y1,hrun]
      rw[<- h];unfold setObj;rw[<- hG]
     simp at h
   simp at h
  simp at h
 simp at h
end
end Go.Vm

