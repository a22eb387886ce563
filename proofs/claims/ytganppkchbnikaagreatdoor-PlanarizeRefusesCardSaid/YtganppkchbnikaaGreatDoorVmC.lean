/-
 A machine on typed values, small enough to be reckoned by the kernel, and the proof that it goes with the model: part 3 of 5. What it computes for a function is that function's contract. No condition of its own.
-/
import Derived.Test.YtganppkchbnikaaGreatDoorVmB
import Derived.WalkSpells
import Derived.Laws.StructEq
import Derived.Laws.Cover3
import Derived.MapKept
open Option.some renaming injEq->aw,inj->B7
open Bool renaming and_eq_true->np,not_eq_true'->Jw,false_eq_true->JS
open List renaming getElem?_eq_getElem->A1,mem_append->A4,replicate->A5,mem_cons->A8,mem_singleton->B4,all_eq_true->B5,length_cons->B6,append_assoc->Jm,mem_cons_of_mem->Jq,pairwise_cons->Jr,append_nil->Jz,map_cons->JA,getElem?_cons_succ->JG,mem_cons_self->JH,pairwise_singleton->JI,getElem_append_left->JJ,getElem_append_right->JL,pairwise_append->Kh,Pairwise->Kv,nil_append->Kw,cons_append->KD,take_left->KF,any_eq_true->KM,drop_left->KT,mem_map->KW,map_append->KY,length_eq_one_iff->Lg,mem_flatMap->Lh,headD_cons->Ll,all_cons->Lz,map_nil->LO,mem_of_mem_tail->LY,range'->LZ,isEmpty_iff->Mj,tail_cons->My
open Nat renaming eq_of_beq_eq_true->A3,beq->A7,le_refl->B2,le_of_ble_eq_true->JF,ble->JK,zero_add->JP,lt_of_lt_of_le->JQ,add_assoc->JX,beq_refl->KP,add_comm->KX
open Option renaming bind_eq_some_iff->A6,map_eq_some_iff->Kl,map_some->KB,getD_some->Lb,map_map->Mi
open Prod.mk renaming injEq->B3
open Array renaming getElem?_eq_some_iff->Jt,getElem?_toList->JN,getD_eq_getD_getElem?->JW,getElem?_setIfInBounds->Ki,getElem?_eq_getElem->Kt,map->LC,ext'->LJ,getElem_toList->LQ,getElem_modify->LR,toList_push->L7
open Int renaming toNat_natCast->J9
open List.Pairwise renaming nil->KH,cons->K4
open List.cons renaming injEq->KJ
open List.Sublist renaming refl->Lc
set_option linter.unusedVariables false
set_option linter.unusedSimpArgs false
/-
 The machine's operations against the model's: operators on two values; what a step comes to, by any continuation.
-/
namespace Go.Vm
def Ew(P:Program)(C:Ctx):Prop:=∀ t τ,C.tab.get t=some τ->τ.isAgg=true->(C.eqs.any λe=>A7 e t)=true ->
 ∀(w:World) (F:Nat->Prop) (cs cs':List Value) (x y:τ.den) (r:Bool),eqT τ x y=some r->Rd w F τ cs x->Rd w F τ cs' y ->
  (∀ w,(Op.equal t (toV τ cs) (toV τ cs')).run P w=.ok r w)/\∀ op p q w,(eqGuard op t p q (toV τ cs) (toV τ cs')).run P w=.ok () w
section
variable {P:Program}{C:Ctx}{w0:World}{M:Own}{o:Oper}{a:Act}{m:Mem}{s:St}{R:Type}{r:R}{K:St->Option R}
def CA(C:Ctx)(w0:World)(M:Own)(m:Mem)(s:St)(dst:Option Nat){R:Type}(K:St->Option R)(r:R)(v:Value)(w':World):Prop:=
 ∃ s',K s'=some r/\Res C w0 M m s s' dst v w'
theorem bO (hi:Inv C w0 M m)(hG:m.G=s.G){v:Value}{sv:SV}(hrun:(execOp a.eval o).run P m.w=.ok (.value v) m.w)(hv:RelSV m v sv)
  (hs:K (ag o.dst sv s)=some r):Does P o a m.w (CA C w0 M m s o.dst K r):=
 Does.value hrun ⟨_,hs,m,sv,rfl,by rw[hG],hi,Evo.refl m,hv⟩
theorem rO{α:Type}{x y:Option α}{z:α}(h:kF x y=some z):x=some z/\y=some z:=by
 unfold kF at h;split at h
 ·rename_i e;exact⟨h,e▸h⟩
 simp at h
theorem vl{k:IntKind}{x y:Int}(h1:k.min<=x)(h2:x<=k.max):k.min<=Eg k x y/\Eg k x y<=k.max:=by
 have hmin:k.min<=0:=by cases k<;>simp[IntKind.min,IntKind.signed,IntKind.bits]
 have hmax:0<=k.max:=by cases k<;>simp[IntKind.max,IntKind.signed,IntKind.bits]
 rw[wx];obtain⟨d,hd⟩:∃ d:Nat,d=2^(min y.toNat k.bits):=⟨_,rfl⟩;have hpos:0<d:=by rw[hd];exact Nat.two_pow_pos _
 have e:(2:Int)^(min y.toNat k.bits)=(d:Int):=by rw[hd];simp
 rw[e];rw[Int.fdiv_eq_ediv_of_nonneg _ (by omega)];have q1:=Int.emod_add_mul_ediv x d;have q2:=Int.emod_nonneg x (show(d:Int)≠0 by omega);have q3:=Int.emod_lt_of_pos x (show(0:Int)<d by omega);obtain⟨q,hq⟩:∃ q,q=x/(d:Int):=⟨_,rfl⟩;obtain⟨c,hc⟩:∃ c:Int,c=(d:Int)-1:=⟨_,rfl⟩;rw[<- hq]at q1 ⊢;have hdc:(d:Int)*q=c*q+q:=by rw[hc,Int.sub_mul];omega
 by_cases h:0<=q
 ·have:0<=c*q:=Int.mul_nonneg (by omega) h;omega
 have:c*q<=c*(-1):=Int.mul_le_mul_of_nonneg_left (by omega) (by omega);omega
theorem zV {op:BinOp}{xt yt:TypeId}{x y:Operand}(hT:cb P C.tab=true)(hE:Ew P C)(hi:Inv C w0 M m)(hG:m.G=s.G)(hS:∀ x,RelSV m (a.eval x) (ah C s.env x))(ho:o.op=.binOp op xt x y yt)
  (h:aZ C o s K=some r):Does P o a m.w (CA C w0 M m s o.dst K r):=by
 simp only[au,aK,ho]at h;have hx:=hS x;have hy:=hS y;have cO (v:Value) (hg:(eqGuard op xt x y (a.eval x) (a.eval y)).run P m.w=.ok () m.w) (hb:(binOp op xt (a.eval x) (a.eval y)).run P m.w=.ok v m.w) :
   (execOp a.eval o).run P m.w=.ok (.value v) m.w:=by
  simp[execOp,ho,hg,hb]
 have nil_cmp {ad:Option Addr} {n cap:Nat} (hx:a.eval x=.slice ad n cap) (hy:a.eval y=.slice none 0 0) (h:cond (dW (C.tab.get xt)) (match op with
   |.eql=>K (ag o.dst (.av (.val .bool ad.isNone)) s)
   |.neq=>K (ag o.dst (.av (.val .bool (!ad.isNone))) s)
   |_=>none) none=some r):Does P o a m.w (CA C w0 M m s o.dst K r):=by
  cases hb:dW (C.tab.get xt)with
  |false=>rw[hb]at h;simp at h
  |true=>
   rw[hb]at h;simp only[UA]at h;unfold dW at hb;split at hb
   ·rename_i e' ht;obtain⟨et,hu,_⟩:=aT (aj hT ht);have hg:=dz (P:=P) op xt x y (u:=a.eval x) (v:=a.eval y) (.inr (.inr (.inr ⟨_,_,_,hx⟩))) m.w;split at h
    ·exact bO hi hG (v:=.bool ad.isNone) (cO _ hg (by rw[hx,hy];simp only[binOp];simp[run_equal_slice_nil m.w xt et ad _ cap hu])) d7 h
    ·exact bO hi hG (v:=.bool (!ad.isNone)) (cO _ hg (by rw[hx,hy];exact run_neq_slice_nil (P:=P) m.w xt et ad _ cap hu)) d7 h
    simp at h
   simp at hb
 split at h
 ·rename_i k p k' q hp hq;rw[hp]at hx;rw[hq]at hy;obtain⟨hx,hx1,hx2⟩:=cF hx;obtain⟨hy,_,_⟩:=cF hy;cases hsh:ln op with
  |true=>
   rw[hsh]at h;simp only[UA]at h;cases hz:ltI q 0 with
   |true=>rw[hz]at h;simp at h
   |false=>
   rw[hz]at h;simp only[UB]at h;have hq0:¬q<0:=by simpa[ltI]using hz
   have hg:(eqGuard op xt x y (a.eval x) (a.eval y)).run P m.w=.ok () m.w:=by cases op<;>simp_all[ln,eqGuard]
   have hv:(binOp op xt (a.eval x) (a.eval y)).run P m.w=.ok (.int k (nu op k p q)) m.w:=by rw[hx,hy];cases op<;>simp only[ln,JS]at hsh<;>simp[binOp,Op.shift,hq0,nu,yz,wx]
   refine bO hi hG (v:=.int k (nu op k p q)) (cO _ hg hv) (dT ?_) h;unfold nu;split
   ·rw[yz];exact wrap_within k _
   exact vl hx1 hx2
  |false=>
  rw[hsh]at h;simp only[UB]at h;cases hk:decide (k=k')with
  |false=>rw[hk]at h;simp at h
  |true=>
   have hk':k=k':=by simpa using hk
   subst hk';rw[hk]at h;simp only[UA]at h;have hg:=dz (P:=P) op xt x y (u:=a.eval x) (v:=a.eval y) (.inl ⟨k,p,hx⟩) m.w;split at h
   ·cases hz:eqI q 0 with
    |true=>rw[hz]at h;simp at h
    |false=>
     rw[hz]at h;simp only[UB]at h;have hq0:q≠0:=by intro e;subst e;simp[eqI]at hz
     exact bO hi hG (v:=.int k (qP k p q)) (cO _ hg (by rw[hx,hy];simp[binOp,Op.intDiv,hq0,qP])) (dT (wrap_within k _)) h
   ·cases hz:eqI q 0 with
    |true=>rw[hz]at h;simp at h
    |false=>
     rw[hz]at h;simp only[UB]at h;have hq0:q≠0:=by intro e;subst e;simp[eqI]at hz
     exact bO hi hG (v:=.int k (n8 p q)) (cO _ hg (by rw[hx,hy];simp[binOp,Op.intDiv,hq0,n8])) (dT (wn hx1 hx2)) h
   split at h
   ·rename_i r hr;obtain⟨v,hv,hrel⟩:=GB (m:=m) (P:=P) op xt k p q hr m.w;exact bO hi hG (v:=v) (cO _ hg (by rw[hx,hy];exact hv)) hrel h
   simp at h
 ·rename_i p q hp hq;rw[hp]at hx;rw[hq]at hy;obtain⟨hx,hx1⟩:=kb hx;obtain⟨hy,hy1⟩:=kb hy;have hg:=dz (P:=P) op xt x y (u:=a.eval x) (v:=a.eval y) (.inr (.inr (.inl ⟨p,hx⟩))) m.w;split at h
  ·unfold Hm at h;split at h
   ·rename_i hle;simp only[Option.bind_some]at h;have hlim:lim<=68719476736:=by unfold lim;omega
    have h63:¬(((p.size+q.size:Nat):Int)>IntKind.i64.max):=by simp[IntKind.max,IntKind.signed,IntKind.bits];omega
    exact bO hi hG (v:=.string (p++q)) (cO _ hg (by rw[hx,hy];simp only[binOp,Op.stringOp];rw[if_neg h63];rfl)) (qd (by rw[size_append];unfold maxLen;omega)) h
   simp at h
  cases op<;>simp only[AN]at h<;>try (simp at h;done)
  ·exact bO hi hG (v:=.bool (eqS p q)) (cO _ hg (by rw[hx,hy];simp[binOp,Op.stringOp,eqS])) d7 h
  exact bO hi hG (v:=.bool (neS p q)) (cO _ hg (by rw[hx,hy];simp[binOp,Op.stringOp,neS])) d7 h
 ·rename_i p q hp hq;rw[hp]at hx;rw[hq]at hy;have hx:=fh hx;have hy:=fh hy;have hg:=dz (P:=P) op xt x y (u:=a.eval x) (v:=a.eval y) (.inr (.inl ⟨p,hx⟩)) m.w;cases hb:m9 (C.tab.get xt)with
  |false=>rw[hb]at h;simp at h
  |true=>
   rw[hb]at h;simp only[UA]at h;unfold m9 at hb;split at hb
   ·rename_i ht;have hu:=lD (aj hT ht);split at h
    ·exact bO hi hG (v:=.bool (eqB p q)) (cO _ hg (by rw[hx,hy];exact run_eql_bool (P:=P) m.w xt p q hu)) d7 h
    ·refine bO hi hG (v:=.bool (neB p q)) (cO _ hg (by
      rw[hx,hy];simp only[binOp];simp[run_equal_bool m.w xt p q hu,neB])) d7 h
    simp at h
   simp at hb
 ·rename_i e l hp hq;rw[hp]at hx;cases hb:(lF y&&dW (C.tab.get xt))with
  |false=>rw[hb]at h;simp at h
  |true=>
   rw[hb]at h;simp only[UA]at h;simp only[np]at hb;obtain⟨hb1,hb2⟩:=hb;have hyv:a.eval y=.slice none 0 0:=by rw[hq]at hy;obtain⟨ad,e,h0⟩:=hy;rw[e,h0 rfl]
   unfold dW at hb2;split at hb2
   ·rename_i e' ht;obtain⟨et,hu,_⟩:=aT (aj hT ht);obtain⟨ad,cap,hx,r1,r2,r3⟩:=gy hx;have hg:=dz (P:=P) op xt x y (u:=a.eval x) (v:=a.eval y) (.inr (.inr (.inr ⟨_,_,_,hx⟩))) m.w;have hsome:l.isEmpty=false->ad.isNone=false:=by intro hl;obtain⟨b,off,c,el,fz,rfl,_⟩:=r3 (by intro e0;rw[e0]at hl;simp at hl);rfl
    split at h
    ·have hrun:(execOp a.eval o).run P m.w=.ok (.value (.bool ad.isNone)) m.w:=cO _ hg (by rw[hx,hyv];simp only[binOp];simp[run_equal_slice_nil m.w xt et ad _ cap hu]);refine bO hi hG hrun d7 ?_;cases hl:l.isEmpty with
     |true=>rw[hl]at h;obtain⟨k1,k2⟩:=rO h;cases ad.isNone<;>assumption
     |false=>rw[hl]at h;rw[hsome hl];exact h
    ·have hrun:(execOp a.eval o).run P m.w=.ok (.value (.bool (!ad.isNone))) m.w:=cO _ hg (by rw[hx,hyv];exact run_neq_slice_nil (P:=P) m.w xt et ad _ cap hu);refine bO hi hG hrun d7 ?_;cases hl:l.isEmpty with
     |true=>rw[hl]at h;obtain⟨k1,k2⟩:=rO h;cases ad.isNone<;>assumption
     |false=>rw[hl]at h;rw[hsome hl];exact h
    simp at h
   simp at hb2
 ·rename_i hp hq;rw[hp]at hx;rw[hq]at hy;obtain⟨ad,hx,h0⟩:=hx;rw[h0 rfl]at hx;obtain⟨ad',hy,h0'⟩:=hy;rw[h0' rfl]at hy;exact nil_cmp (cap:=0) (n:=0) hx hy h
 ·have hq:ah C s.env y=.av (.nils true):=by assumption
  rw[hq]at hy;obtain⟨ad',hy,h0'⟩:=hy;rw[h0' rfl]at hy;split at h
  ·rename_i e ht;split at h
   ·rename_i z l hl;obtain⟨cs,hx,d1⟩:=db hi (hG▸hl) hx;obtain⟨ad,cap,rfl,h2,h3,h4⟩:=d1;obtain⟨b,off,c,el,fz,rfl,_⟩:=h4 (by simp);have hx:a.eval x=.slice (some ⟨b,off,none⟩) (z::l).length cap:=hx;refine nil_cmp hx hy ?_;rw[ht];exact h
   simp at h
  simp at h
 split at h
 ·rename_i τ ht;cases hb:(τ.isAgg&&C.eqs.any λe=>A7 e xt)with
  |false=>rw[hb]at h;simp at h
  |true=>
   rw[hb]at h;simp only[UA]at h;simp only[np]at hb;obtain⟨hb1,hb2⟩:=hb;split at h
   ·rename_i p q hp hq;obtain⟨cs,e1,d1⟩:=db hi (hG▸hp) hx;obtain⟨cs',e2,d2⟩:=db hi (hG▸hq) hy;split at h
    ·rename_i res hres;have d1':Rd m.w (λ_=>True) τ cs p:=d1.mono (λb _=>⟨trivial,rfl⟩);have d2':Rd m.w (λ_=>True) τ cs' q:=d2.mono (λb _=>⟨trivial,rfl⟩);obtain⟨k1,k2⟩:=hE xt τ ht hb1 hb2 m.w (λ_=>True) cs cs' p q res hres d1' d2';have hg:=k2 op x y m.w;have k1:=k1 m.w;rw[<- e1,<- e2]at hg k1;have v1:a.eval x=.agg cs.toArray:=by rw[e1];simp[toV,hb1]
     have v2:a.eval y=.agg cs'.toArray:=by rw[e2];simp[toV,hb1]
     split at h
     ·exact bO hi hG (v:=.bool res) (cO _ hg (by rw[v1,v2]at k1 ⊢;simp only[binOp];simp[k1])) d7 h
     ·exact bO hi hG (v:=.bool (!res)) (cO _ hg (by rw[v1,v2]at k1 ⊢;simp only[binOp];simp[k1])) d7 h
     simp at h
    simp at h
   simp at h
 simp at h
end
end Go.Vm

/-
 The machine's operations against the model's: maps.
-/
namespace Go.Vm
structure MapTy (P:Program)(t:TypeId)(k v:Ty)(kt vt:TypeId):Prop where
 und:P.underlying t=some (.map kt vt)
 key:chk P k none kt=true
 val:chk P v none vt=true
 plain:k.plain=true
 more:k≠.unit
 flat:v.flat=true
 ask:∀(w:World) (F:Nat->Prop) (cs:List Value) (x:k.den) (em:Bool),Rd w F k cs x->∀ w,(Instr.checkKey em 10000 kt (toV k cs)).run P w=.ok () w
 eq:∀(w w':World) (F F':Nat->Prop) (cs cs':List Value) (x y:k.den),Rd w F k cs x->Rd w' F' k cs' y->∀ w,(Op.equal kt (toV k cs) (toV k cs')).run P w=.ok (eqK k x y) w
def nh(P:Program)(C:Ctx):Prop:=∀ t k v,fg C.maps t=some (k,v)->∃ kt vt,MapTy P t k v kt vt
theorem gH:∀{τ:Ty},τ.plain=true->τ.flat=true
 |.int _,_=>rfl
 |.bool,_=>rfl
 |.str,_=>rfl
 |.prod a b,h=>by simp only[Ty.plain,np]at h;simp only[Ty.flat,np];exact⟨gH h.1,gH h.2⟩
 |.unit,_=>rfl
 |.slice _,h=>by cases h
 |.arr _ _,h=>by cases h
 |.ptr _,h=>by cases h
 |.clo _ _,h=>by cases h
theorem jV{w:World}{F:Nat->Prop}:∀{τ:Ty} {cs:List Value} {x:τ.den},τ.flat=true->Rd w F τ cs x->∀(w':World) (F':Nat->Prop),Rd w' F' τ cs x
 |.int _,_,_,_,h,_,_=>h
 |.bool,_,_,_,h,_,_=>h
 |.str,_,_,_,h,_,_=>h
 |.prod a b,_,_,hf,h,_,_=>by simp only[Ty.flat,np]at hf;obtain⟨c1,c2,h1,h2,h3⟩:=h;exact⟨c1,c2,h1,jV hf.1 h2 _ _,jV hf.2 h3 _ _⟩
 |.unit,_,_,_,h,_,_=>h
 |.arr n e,_,_,hf,h,_,_=>by obtain⟨h1,h2,h3⟩:=h;exact⟨h1,h2,λi hi=>jV (by simpa[Ty.flat]using hf) (h3 i hi) _ _⟩
 |.slice _,_,_,hf,_,_,_=>by simp[Ty.flat]at hf
 |.ptr _,_,_,hf,_,_,_=>by simp[Ty.flat]at hf
 |.clo _ _,_,_,hf,_,_,_=>by simp[Ty.flat]at hf
theorem toList_inj{a b:ByteArray}(h:a.toList=b.toList):a=b:=by
 rw[ByteArray.toList_eq,ByteArray.toList_eq]at h;cases a;cases b
 simp only at h;rw[Array.toList_inj.1 h]
theorem re(a b:ByteArray):(a==b)=eqS a b:=by show(a.data==b.data)=(a.toList==b.toList);rw[Bool.eq_iff_iff,beq_iff_eq,beq_iff_eq,ByteArray.toList_eq,ByteArray.toList_eq];exact Array.toList_inj.symm
theorem qo:∀{τ:Ty} {x y:τ.den},τ.plain=true->eqK τ x y=true->x=y
 |.int _,x,y,_,h=>by simpa[eqK,eqT,eqI]using h
 |.bool,x,y,_,h=>by simpa[eqK,eqT,eqB]using h
 |.str,x,y,_,h=>by simp only[eqK,eqT,eqS,beq_iff_eq]at h;exact toList_inj h
 |.prod a b,x,y,hp,h=>by
  simp only[Ty.plain,np]at hp;simp only[eqK,eqT]at h;cases h1:eqT a x.1 y.1 with
  |none=>rw[h1]at h;simp at h
  |some p=>
   rw[h1]at h;cases h2:eqT b x.2 y.2 with
   |none=>rw[h2]at h;simp at h
   |some q=>rw[h2]at h;simp only[np]at h;have e1:=qo (τ:=a) (x:=x.1) (y:=y.1) hp.1 (by simp[eqK,h1,h.1]);have e2:=qo (τ:=b) (x:=x.2) (y:=y.2) hp.2 (by simp[eqK,h2,h.2]);exact Prod.ext e1 e2
 |.unit,_,_,_,_=>rfl
 |.slice _,_,_,h,_=>by cases h
 |.arr _ _,_,_,h,_=>by cases h
 |.ptr _,_,_,h,_=>by cases h
 |.clo _ _,_,_,h,_=>by cases h
theorem sF{w w':World}{F F':Nat->Prop}:∀{τ:Ty} {cs cs':List Value} {x:τ.den},τ.plain=true->Rd w F τ cs x->Rd w' F' τ cs' x->cs=cs'
 |.int _,_,_,_,_,h,h'=>by rw[h.1,h'.1]
 |.bool,_,_,_,_,h,h'=>by unfold Rd at h h';rw[h,h']
 |.str,_,_,_,_,h,h'=>by rw[h.1,h'.1]
 |.prod a b,_,_,_,hp,h,h'=>by simp only[Ty.plain,np]at hp;obtain⟨c1,c2,rfl,h1,h2⟩:=h;obtain⟨d1,d2,rfl,h3,h4⟩:=h';rw[sF hp.1 h1 h3,sF hp.2 h2 h4]
 |.unit,_,_,_,_,h,h'=>by unfold Rd at h h';rw[h,h']
 |.slice _,_,_,_,h,_,_=>by cases h
 |.arr _ _,_,_,_,h,_,_=>by cases h
 |.ptr _,_,_,_,h,_,_=>by cases h
 |.clo _ _,_,_,_,h,_,_=>by cases h
theorem pa{w:World}{F:Nat->Prop}:∀{τ:Ty} {cs:List Value} {x:τ.den},τ.plain=true->Rd w F τ cs x->∀ u∈cs,∀ n,Instr.sameBits n u u=true
 |.int _,_,_,_,h,u,hu,n=>by obtain⟨rfl,_⟩:=h;simp at hu;subst hu;cases n<;>simp[Instr.sameBits]
 |.bool,_,_,_,h,u,hu,n=>by unfold Rd at h;subst h;simp at hu;subst hu;cases n<;>simp[Instr.sameBits]
 |.str,_,_,_,h,u,hu,n=>by obtain⟨rfl,_⟩:=h;simp at hu;subst hu;cases n<;>simp[Instr.sameBits,re,eqS]
 |.prod a b,_,_,hp,h,u,hu,n=>by
  simp only[Ty.plain,np]at hp;obtain⟨c1,c2,rfl,h1,h2⟩:=h;rcases A4.1 hu with hu|hu
  ·exact pa hp.1 h1 u hu n
  exact pa hp.2 h2 u hu n
 |.unit,_,_,_,h,u,hu,n=>by unfold Rd at h;subst h;simp at hu
 |.slice _,_,_,h,_,_,_,_=>by cases h
 |.arr _ _,_,_,h,_,_,_,_=>by cases h
 |.ptr _,_,_,h,_,_,_,_=>by cases h
 |.clo _ _,_,_,h,_,_,_,_=>by cases h
theorem At{w:World}{F:Nat->Prop}{τ:Ty}{cs:List Value}{x:τ.den}(hp:τ.plain=true)(h:Rd w F τ cs x)(n:Nat):Instr.sameBits (n+1) (toV τ cs) (toV τ cs)=true:=by
 cases ha:τ.isAgg with
 |true=>
  simp only[toV,ha,UA,Instr.sameBits,beq_self_eq_true,Bool.true_and,B5];rintro⟨u,v⟩ huv;have:u=v/\u∈cs:=by rw[List.mem_iff_getElem?]at huv;obtain⟨i,hi⟩:=huv;rw[List.getElem?_zip_eq_some]at hi;obtain⟨h1,h2⟩:=hi;simp only at h1 h2;rw[h1]at h2;exact⟨B7 h2,List.mem_of_getElem? h1⟩
  obtain⟨rfl,hu⟩:=this;exact pa hp h u hu n
 |false=>obtain⟨v,rfl,_⟩:=h.single ha;simp only[toV,ha,UB,Ll];exact pa hp h v (by simp) _
section
variable {P:Program}{C:Ctx}{w0:World}{M:Own}{o:Oper}{a:Act}{m:Mem}{s:St}{R:Type}{r:R}{K:St->Option R}
theorem EntsW.cons {w:World}{F:Nat->Prop}{k v:Ty}{e:MapEntry}{es:List MapEntry}{p:k.den×v.den}{l:List (k.den×v.den)}(h:EntsW w F k v (e :: es) (p :: l)) :
  (∃ cs,e.key=toV k cs/\Rd w F k cs p.1)/\(∃ cs,e.val=toV v cs/\Rd w F v cs p.2)/\EntsW w F k v es l:=by
 refine⟨(h.2 0 (by simp) (by simp)).1,(h.2 0 (by simp) (by simp)).2,by simpa using h.1,λi h1 h2=>?_⟩;have:=h.2 (i+1) (by simpa using h1) (by simpa using h2);simpa using this
theorem pv {t kt vt:TypeId}{k v:Ty}(hM:MapTy P t k v kt vt){w:World}{F:Nat->Prop}{cs:List Value}{x:k.den}(hx:Rd w F k cs x):∀{es:List MapEntry} {l:List (k.den×v.den)} (i:Nat),EntsW w F k v es l->∀ w',
  (Instr.findAsking kt (toV k cs) es i).run P w'=.ok ((cS k v x l).map λj=>(i+j,(es[j]?.map (·.val)).getD undef)) w'
 |[],[],i,_,w'=>rfl
 |[],_::_,i,h,w'=>by have:=h.1;simp at this
 |_::_,[],i,h,w'=>by have:=h.1;simp at this
 |e::es,p::l,i,h,w'=>by
  obtain⟨⟨c1,k1,k2⟩,_,k3⟩:=h.cons;have hq:=hM.eq w w F F cs c1 x p.1 hx k2 w';simp only[Instr.findAsking,Sem.run_bind,k1,hq,Result.andThen_ok];cases hb:eqK k x p.1 with
  |true=>simp[cS,hb]
  |false=>simp only[JS,if_false];rw[pv hM hx (i+1) k3 w'];simp only[cS,hb,UB,Mi];congr 2;funext j;simp only[Function.comp_apply,JG];rw[JX,KX 1 j]
theorem qj {k v:Ty}{d:TypeDesc}(hd:(∃ q,k=.int q/\d=.int q)\/(k=.bool/\d=.bool)\/(k=.str/\d=.string)){w:World}{F:Nat->Prop}{cs:List Value}{x:k.den}(hx:Rd w F k cs x):∀{es:List MapEntry} {l:List (k.den×v.den)} (i:Nat),EntsW w F k v es l ->
  Instr.findNow d (toV k cs) es i=some ((cS k v x l).map λj=>(i+j,(es[j]?.map (·.val)).getD undef))
 |[],[],i,_=>rfl
 |[],_::_,i,h=>by have:=h.1;simp at this
 |_::_,[],i,h=>by have:=h.1;simp at this
 |e::es,p::l,i,h=>by
  obtain⟨⟨c1,k1,k2⟩,_,k3⟩:=h.cons;have hs:Instr.sameNow d (toV k cs) e.key=some (eqK k x p.1):=by
   rw[k1];rcases hd with⟨q,rfl,rfl⟩|⟨rfl,rfl⟩|⟨rfl,rfl⟩
   ·obtain⟨rfl,_⟩:=hx;obtain⟨rfl,_⟩:=k2;simp[toV,Ty.isAgg,Instr.sameNow,eqK,eqT,eqI]
   ·unfold Rd at hx k2;subst hx;subst k2;simp[toV,Ty.isAgg,Instr.sameNow,eqK,eqT,eqB]
   obtain⟨rfl,_⟩:=hx;obtain⟨rfl,_⟩:=k2
   simp only[toV,Ty.isAgg,UB,Ll,Instr.sameNow,eqK,eqT,re]
  simp only[Instr.findNow,hs];cases hb:eqK k x p.1 with
  |true=>simp[cS,hb]
  |false=>simp only;rw[qj hd hx (i+1) k3];simp only[cS,hb,UB,Mi];congr 2;funext j;simp only[Function.comp_apply,JG];rw[JX,KX 1 j]
theorem mR {t kt vt:TypeId}{k v:Ty}(hM:MapTy P t k v kt vt){w:World}{F:Nat->Prop}{cs:List Value}{x:k.den}(hx:Rd w F k cs x){es:List MapEntry}{l:List (k.den×v.den)}(h:EntsW w F k v es l)(w':World) :
  (Instr.findKey kt (toV k cs) es).run P w'=.ok ((cS k v x l).map λj=>(j,(es[j]?.map (·.val)).getD undef)) w':=by
 have nonagg {d:TypeDesc} (hu:P.underlying kt=some d) (hd:(∃ q,k=.int q/\d=.int q)\/(k=.bool/\d=.bool)\/(k=.str/\d=.string)):(Instr.findKey kt (toV k cs) es).run P w'=.ok ((cS k v x l).map λj=>(j,(es[j]?.map (·.val)).getD undef)) w':=by simp only[Instr.findKey,Sem.run_bind,run_underlying hu,Result.andThen_ok,qj hd hx 0 h,Sem.run_pure,JP]
 have agg (ha:k.isAgg=true):(Instr.findKey kt (toV k cs) es).run P w'=.ok ((cS k v x l).map λj=>(j,(es[j]?.map (·.val)).getD undef)) w':=by
  obtain⟨d,hu,_⟩:=k8 hM.key;have hask:=pv hM hx 0 h w';simp only[JP]at hask;simp only[Instr.findKey,Sem.run_bind,run_underlying hu,Result.andThen_ok];cases es with
  |nil=>
   cases l with
   |nil=>rfl
   |cons _ _=>have:=h.1;simp at this
  |cons e es=>
   have hn:Instr.findNow d (toV k cs) (e::es) 0=none:=by
    have:Instr.sameNow d (toV k cs) e.key=none:=by simp only[toV,ha,UA];cases d<;>rfl
    simp only[Instr.findNow,this]
   rw[hn];exact hask
 have hp:=hM.plain;cases k with
 |int q=>exact nonagg (iS hM.key) (.inl ⟨q,rfl,rfl⟩)
 |bool=>exact nonagg (lD hM.key) (.inr (.inl ⟨rfl,rfl⟩))
 |str=>exact nonagg (fp hM.key) (.inr (.inr ⟨rfl,rfl⟩))
 |prod a b=>exact agg rfl
 |unit=>exact agg rfl
 |_=>cases hp
theorem mA{k v:Ty}{x:k.den}:∀{l:List (k.den×v.den)},df k v x l=(cS k v x l).bind λj=>l[j]?.map (·.2)
 |[]=>rfl
 |p::l=>by
  simp only[df,cS];cases eqK k x p.1 with
  |true=>simp
  |false=>simp only[UB];rw[mA];cases cS k v x l<;>simp
theorem lY {k v:Ty}{x:k.den}{y:v.den}:∀{l:List (k.den×v.den)},iV k v x y l=match cS k v x l with
  |none=>l++[(x,y)]
  |some j=>match l[j]? with
   |some p=>l.set j (p.1,y)
   |none=>l
 |[]=>rfl
 |p::l=>by
  simp only[iV,cS];cases eqK k x p.1 with
  |true=>simp
  |false=>
   simp only[UB];rw[lY];cases cS k v x l with
   |none=>simp
   |some j=>simp only[KB,JG,List.set_cons_succ];cases l[j]?<;>rfl
theorem og{k v:Ty}{x:k.den}:∀{l:List (k.den×v.den)} {j:Nat},cS k v x l=some j->∃ h:j<l.length,eqK k x l[j].1=true
 |[],_,h=>by simp[cS]at h
 |p::l,j,h=>by
  simp only[cS]at h;cases hb:eqK k x p.1 with
  |true=>rw[hb]at h;simp at h;subst h;exact⟨by simp,hb⟩
  |false=>rw[hb]at h;simp only[UB,Kl]at h;obtain⟨j',h',rfl⟩:=h;obtain⟨h1,h2⟩:=og h';exact⟨by simp[h1],by simpa using h2⟩
theorem eX{k v k' v':Ty}{l:List (k'.den×v'.den)}{l':List (k.den×v.den)}(h:fO k v k' v' l=some l'):∃(e1:k'=k) (e2:v'=v),e1▸e2▸l=l':=by
 unfold fO at h;split at h
 ·rename_i e;exact⟨e.1,e.2,by simpa using h⟩
 simp at h
theorem DH{es:List MapEntry}{k u:Value}{clock:Nat}(h:Stp es clock):Stp (es++[{ key:=k,val:=u,born:=clock }]) (clock+1):=by
 obtain⟨h1,h2⟩:=h;refine⟨?_,λx hx=>?_⟩
 ·rw[KY,Kh];refine⟨h1,by simp,λa ha b hb=>?_⟩;obtain⟨x,hx,rfl⟩:=KW.1 ha;simp at hb;subst hb;exact h2 x hx
 rcases A4.1 hx with hx|hx
 ·exact Nat.lt_succ_of_lt (h2 x hx)
 simp at hx;subst hx;exact Nat.lt_succ_self _
theorem oO{f:MapEntry->MapEntry}(hf:∀ e,(f e).born=e.born):∀(es:List MapEntry) (i:Nat),(es.modify i f).map (·.born)=es.map (·.born)
 |[],i=>by simp
 |e::r,0=>by simp[hf]
 |e::r,i+1=>by simp[oO hf r i]
theorem sg{es es':List MapEntry}{clock:Nat}(h:Stp es clock)(hs:(es'.map (·.born)).Sublist (es.map (·.born))):Stp es' clock:=by refine⟨h.1.sublist hs,λx hx=>?_⟩;obtain⟨y,hy,e⟩:=KW.1 (hs.subset (KW.2 ⟨x,hx,rfl⟩));rw[<- e];exact h.2 y hy
theorem nf (hi:Inv C w0 M m){id:Nat}{k v:Ty}(hk:k≠.unit){l:List (k.den×v.den)}{u:Value}(hg:m.G.get id=some (.map k v l))(hr:RelSV m u (.av (.ownm id))) :
  ∃ b es clock,u=.map (some b)/\m.ι id=.map (some b)/\m.w.heap[b]?=some (.map es clock)/\EntsW m.w m.F k v es.toList l/\Stp es.toList clock:=by
 obtain⟨_,ob,hob,hv⟩:=hr;rw[hg]at hob;cases hob;rcases hi.objs id _ hg with⟨_,b,es,clock,h1,h2,h3⟩|⟨h0,_⟩
 ·exact⟨b,es,clock,hv.trans h1,h1,h2,h3⟩
 exact absurd h0 hk
theorem Gp (hT:cb P C.tab=true)(hM:nh P C)(hi:Inv C w0 M m)(hG:m.G=s.G)(hS:∀ x,RelSV m (a.eval x) (ah C s.env x)){args:Array Operand}{ats:Array TypeId}{s':St}
  (ho:o.op=.call { callee:=.builtin .len,args,argTypes:=ats })
  (h:aZ C o s some=some s'):Does P o a m.w (Res C w0 M m s s' o.dst):=by
 simp only[au,aK,ho]at h;split at h
 ·rename_i x hargs;have ha:args=#[x]:=by rw[<- Array.toArray_toList (xs:=args),hargs]
  subst ha;split at h
  ·rename_i id p hx hp;have hxr:=hS x;rw[hx]at hxr;cases hb:JK 1 ats.size with
   |false=>rw[hb]at h;cases h
   |true=>
    rw[hb]at h;have hsz:=JF hb;simp only[UA]at h;split at h
    ·rename_i k v l hg;obtain⟨l',hl,h⟩:=A6.1 h;obtain⟨k0,v0⟩:=p;obtain⟨e1,e2,hl⟩:=eX hl;simp only at e1 e2;subst e1;subst e2
     simp only at hl;subst hl;cases hle:JK l.length 1000000 with
     |false=>rw[hle]at h;cases h
     |true=>
      rw[hle]at h;have hle:=JF hle;obtain⟨kt,vt,hT2⟩:=hM _ k v hp;obtain⟨b,es,clock,u1,_,u2,u3,_⟩:=nf hi hT2.more (hG▸hg) hxr;have hat:ats[0]?=some (ats.getD 0 0):=by simp[Kt (show 0<ats.size by omega)]
      have hn:es.size=l.length:=by rw[<- u3.1,Array.length_toList]
      refine aB hi hG (v:=.int .i64 (l.length:Nat)) ?_ (dT (rY (by unfold maxLen;omega))) h;have hu:=hT2.und;generalize ats.getD 0 0=t0 at hat hu;simp[execOp,ho,resolve,invoke,builtin,Builtin.len_,hat,run_underlying hu,u1,MapKept.run_getObj_map u2,hn,goInt,Result.andThen]
    cases h
  exact EK hT hi hG hS ho h
 cases h
theorem vg {t:TypeId}(hM:nh P C)(hi:Inv C w0 M m)(hG:m.G=s.G)(ho:o.op=.makeMap t none){s':St}
  (h:aZ C o s some=some s'):Does P o a m.w (Res C w0 M m s s' o.dst):=by
 simp only[au,aK,ho]at h;split at h
 ·rename_i p hp;obtain⟨kt,vt,hT⟩:=hM t p.1 p.2 hp;obtain⟨i,hn,h⟩:=bM h;simp only[aw]at h;obtain⟨g1,g2⟩:=iC hi (eI m.w (.map #[] 0)) (i:=i) (o:=.map p.1 p.2 []) (h:=.map (some m.w.heap.size)) (by rw[hG];exact hn) (λb hb=>by
   have hb:m.w.heap.size=b:=hb;subst hb;exact⟨B2 _,(Jt.1 (b0 m.w (.map #[] 0))).1⟩) (.inl ⟨hT.more,m.w.heap.size,#[],0,by simp,b0 m.w _,⟨rfl,λi hi=>by simp at hi⟩,by simp[Stp]⟩)
  refine Does.value (w':=m.w.alloc (.map #[] 0)) (v:=.map (some m.w.heap.size)) ?_ ⟨_,.av (.ownm i),rfl,?_,g1,g2,?_⟩
  ·simp[execOp,ho,Instr.makeMap]
  ·rw[<- h,hG]
  exact(ao (a:=.ownm i) (by intros;simp)).2 ⟨rfl,.map p.1 p.2 [],by rw[Heap.get_cons,if_pos rfl],by simp⟩
 simp at h
theorem zy(x:ByteArray)(i:Nat):(Utf8.decode x i).1<=0x10FFFF:=by
 unfold Utf8.decode;simp only;have hv:∀ c:Nat,Utf8.valid (c:Int)=true->c<=0x10FFFF:=λc hc=>by simp only[Utf8.valid,Bool.or_eq_true,np,decide_eq_true_eq]at hc;omega
 have he:Utf8.runeError<=0x10FFFF:=by decide
 split
 ·simp only;omega
 split
 ·split
  ·simp only;omega
  exact he
 split
 ·split
  ·simp only;omega
  exact he
 split
 ·split
  ·rename_i h;simp only[np]at h;exact hv _ h.2
  exact he
 exact he
theorem Ck {t:TypeId}{x:Operand}(hT:cb P C.tab=true)(hi:Inv C w0 M m)(hG:m.G=s.G)(hS:∀ x,RelSV m (a.eval x) (ah C s.env x))(ho:o.op=.range t x){s':St}
  (h:aZ C o s some=some s'):Does P o a m.w (Res C w0 M m s s' o.dst):=by
 simp only[au,aK,ho]at h;split at h
 ·rename_i b ht hx;have hxr:=hS x;rw[hx]at hxr;obtain⟨cs,hv,hr⟩:=hxr;obtain⟨rfl,hlen⟩:=hr;obtain⟨i,hn,h⟩:=bM h;simp only[aw]at h;have hu:=fp (aj hT ht);obtain⟨g1,g2⟩:=iC hi (eI m.w (.stringIter b 0)) (i:=i) (o:=.map .unit itTy [((),(b,0))]) (h:=.pointer (some ⟨m.w.heap.size,0,none⟩)) (by rw[hG];exact hn) (λq hb=>by
   have hb:m.w.heap.size=q:=hb;subst hb;exact⟨B2 _,(Jt.1 (b0 m.w (.stringIter b 0))).1⟩) (.inr ⟨rfl,m.w.heap.size,b,0,by simp,b0 m.w _,hlen,rfl⟩)
  refine Does.value (w':=m.w.alloc (.stringIter b 0)) (v:=.pointer (some ⟨m.w.heap.size,0,none⟩)) ?_ ⟨_,.av (.ownm i),rfl,?_,g1,g2,?_⟩
  ·simp only[toV,Ty.isAgg,UB,Ll]at hv;simp[execOp,ho,Instr.range,hv,run_underlying hu]
  ·rw[<- h,hG]
  exact(ao (a:=.ownm i) (by intros;simp)).2 ⟨rfl,.map .unit itTy [((),(b,0))],by rw[Heap.get_cons,if_pos rfl],by simp⟩
 simp at h
theorem ru{k v:Ty}{l:List (k.den×v.den)}{p:ByteArray×Int}(h:yN k v l=some p):k=.unit/\v=itTy:=by
 unfold yN at h;split at h
 ·exact⟨rfl,rfl⟩
 cases h
theorem lU{w:World}{r pos:Nat}{y:ByteArray}(hb:w.heap[r]?=some (.stringIter y pos)):(Go.getObj r).run P w=.ok (.stringIter y pos) w:=by simp[Go.getObj,Sem.run,hb]
theorem qR{w:World}{r pos:Nat}{y:ByteArray}(ob:Go.Obj)(hb:w.heap[r]?=some (.stringIter y pos)):(Go.setObj r ob).run P w=.ok () { w with heap:=w.heap.setIfInBounds r ob }:=by simp[Go.setObj,Sem.run,hb]
theorem E5 {x:Operand}{str:Bool}(hi:Inv C w0 M m)(hG:m.G=s.G)(hS:∀ x,RelSV m (a.eval x) (ah C s.env x))(ho:o.op=.next x str){s':St}
  (h:aZ C o s some=some s'):Does P o a m.w (Res C w0 M m s s' o.dst):=by
 cases str with
 |false=>simp[au,aK,ho]at h
 |true=>
 simp only[au,aK,ho]at h;split at h
 ·rename_i id hx;have hxr:=hS x;rw[hx]at hxr;split at h
  ·rename_i k v l hg;obtain⟨p,hp,h⟩:=A6.1 h;obtain⟨_,ob,hob,hv⟩:=hxr;rw[hG,hg]at hob;cases hob;simp only at hv;have hg':m.G.get id=some (.map k v l):=hG▸hg;rcases hi.objs id _ hg' with⟨h0,_⟩|⟨h0,b,y,pos,h1,h2,h3,h4⟩
   ·exact absurd (ru hp).1 h0
   obtain⟨rfl,rfl⟩:=ru hp;rw[hp]at h4;cases h4;have hb:=(Jt.1 h2).1;rw[h1]at hv;cases hm:qh (y,(pos:Int))with
   |false=>
    rw[hm]at h;simp only[UB]at h;have hlt:¬pos<y.size:=by simpa[qh,ltI]using hm
    refine aB hi hG (v:=.tuple #[.bool false]) (sv:=.tup [(false,[.val .bool false])]) ?_ ?_ h
    ·simp[execOp,ho,Instr.next,hv,lU h2,hlt]
    exact⟨[.bool false],rfl,⟨_,rfl,⟨rfl,rfl⟩⟩,trivial⟩
   |true=>
    rw[hm]at h;simp only[UA,aw]at h;have hlt:pos<y.size:=by simpa[qh,ltI]using hm
    have hw:Wrote m.w b { m.w with heap:=m.w.heap.setIfInBounds b (.stringIter y (pos+(Utf8.decode y pos).2)) }:=⟨rfl,rfl,rfl,by simp,λq hq=>by simp[Ki,Ne.symm hq]⟩;obtain⟨g1,g2⟩:=di hi (id:=id) (o:=.map .unit itTy l) (o':=.map .unit itTy [((),sZ (y,(pos:Int)))]) (b:=b) hg' rfl (by rw[h1];rfl) ⟨rfl,rfl⟩ hw (λhe=>
     .inr ⟨rfl,b,y,pos+(Utf8.decode y pos).2,h1,by simp[Ki,hb],h3,by simp[yN,sZ]⟩)
    have hi64:=rY (n:=pos) (by omega);have hi32:IntKind.i32.min<=mw (y,(pos:Int))/\mw (y,(pos:Int))<=IntKind.i32.max:=by have:=zy y pos;simp only[mw,J9];simp[IntKind.min,IntKind.max,IntKind.signed,IntKind.bits];omega
    refine Does.value (w':={ m.w with heap:=m.w.heap.setIfInBounds b (.stringIter y (pos+(Utf8.decode y pos).2)) }) (v:=.tuple #[.bool true,.int .i64 pos,.int .i32 (Utf8.decode y pos).1]) ?_
     ⟨_,.tup [(false,[.val .bool true]),(false,[.val (.int .i64) (pos:Int)]),(false,[.val (.int .i32) (mw (y,(pos:Int)))])],rfl,?_,g1,g2,?_⟩
    ·simp[execOp,ho,Instr.next,hv,lU h2,hlt,qR _ h2,goInt]
    ·rw[<- h,hG];rfl
    exact⟨[_,_,_],rfl,⟨_,rfl,⟨rfl,rfl⟩⟩,⟨_,rfl,⟨⟨rfl,hi64⟩,rfl⟩⟩,⟨_,rfl,⟨⟨by simp[mw],hi32⟩,rfl⟩⟩,trivial⟩
  simp at h
 simp at h
theorem o6:∀{τ:Ty},τ.flat=true->τ.noPC=true
 |.int _,_=>rfl
 |.bool,_=>rfl
 |.str,_=>rfl
 |.prod a b,h=>by simp only[Ty.flat,np]at h;simp only[Ty.noPC,np];exact⟨o6 h.1,o6 h.2⟩
 |.unit,_=>rfl
 |.slice _,_=>rfl
 |.arr _ e,h=>o6 (τ:=e) h
 |.ptr _,h=>by cases h
 |.clo _ _,h=>by cases h
theorem Fi(hi:Inv C w0 M m){τ:Ty}{t:TypeId}(hn:τ.noPC=true)(h:chk P τ none t=true):∃ z cs,(∀ w,(zeroValue t).run P w=.ok z w)/\z=toV τ cs/\Rd m.w m.F τ cs (bk τ):=by
 obtain⟨z,z1,z2,z3,z4⟩:=rk h;obtain⟨c,e,hr,_⟩:=dO (m:=m) hn z1;rw[Jz]at e;refine⟨z,c,z4,?_,hr⟩;cases ha:τ.isAgg with
 |true=>obtain⟨cc,rfl⟩:=z2 ha;simp only[Value.cells]at e;simp[toV,ha,<- e]
 |false=>rw[z3 ha]at e;simp only at e;simp[toV,ha,<- e]
theorem zI {t:TypeId}{x ix:Operand}{ok:Bool}(hM:nh P C)(hi:Inv C w0 M m)(hG:m.G=s.G)(hS:∀ x,RelSV m (a.eval x) (ah C s.env x))(ho:o.op=.lookup t x ix ok){s':St}
  (h:aZ C o s some=some s'):Does P o a m.w (Res C w0 M m s s' o.dst):=by
 simp only[au,aK,ho]at h;split at h
 ·rename_i p id hp hx;obtain⟨k,v⟩:=p;have hxr:=hS x;rw[hx]at hxr;split at h
  ·rename_i k' v' l hg;obtain⟨l',hl,h⟩:=A6.1 h;obtain⟨e1,e2,hl⟩:=eX hl;simp only at e1 e2;subst e1;subst e2
   simp only at hl;subst hl;split at h
   ·rename_i key hk;obtain⟨kt,vt,hT⟩:=hM t k' v' hp;obtain⟨b,es,clock,u1,_,u2,u3,_⟩:=nf hi hT.more (hG▸hg) hxr;rw[<- hG]at hk;obtain⟨cs,c1,c2⟩:=db hi hk (hS ix);have c3:Rd m.w m.F k' cs key:=jV (gH hT.plain) c2 _ _;obtain⟨z,zc,z1,z2,z3⟩:=Fi hi (o6 hT.flat) hT.val;have hfind:=mR hT c3 u3 m.w;have hask:=hT.ask m.w m.F cs key es.isEmpty c3 m.w;have hund:P.underlying t=some (.map kt vt):=hT.und
    -- the value that comes
    obtain⟨u,uc,w1,w2,w3⟩:∃ u uc,(Instr.lookup t (a.eval x) (a.eval ix) ok).run P m.w=.ok (if ok then .tuple #[u,.bool (df k' v' key l).isSome]else u) m.w/\u=toV v' uc/\Rd m.w m.F v' uc ((df k' v' key l).getD (bk v')):=by
     rw[c1,u1];cases hix:cS k' v' key l with
     |none=>
      rw[hix]at hfind;have hget:df k' v' key l=none:=by rw[mA,hix];rfl
      refine⟨z,zc,?_,z2,by rw[hget];exact z3⟩;simp[Instr.lookup,run_underlying hund,MapKept.run_getObj_map u2,hask,hfind,z1,hget,Result.andThen]
     |some j=>
      rw[hix]at hfind;obtain⟨hj,_⟩:=og hix;have hje:j<es.toList.length:=by rw[u3.1];exact hj
      obtain⟨vc,v1,v2⟩:=(u3.2 j hje hj).2;have hget:df k' v' key l=some l[j].2:=by rw[mA,hix];simp[A1 hj]
      refine⟨es.toList[j].val,vc,?_,v1,by rw[hget];exact v2⟩;simp only[KB,A1 hje,Lb]at hfind;simp[Instr.lookup,run_underlying hund,MapKept.run_getObj_map u2,hask,hfind,hget,Result.andThen]
    have hlen:=w3.len;cases ok with
    |true=>
     simp only[UA]at h;refine aB hi hG (v:=.tuple #[u,.bool (df k' v' key l).isSome]) (sv:=.tup [(v'.isAgg,da v' ((df k' v' key l).getD (bk v'))),(false,[.val .bool (df k' v' key l).isSome])]) ?_ ?_ h
     ·simp[execOp,ho,w1]
     refine⟨[u,.bool (df k' v' key l).isSome],rfl,?_,⟨_,rfl,⟨rfl,rfl⟩⟩,trivial⟩;rw[w2];show eW m (toV v' uc) (v'.isAgg,da v' _);have hr:=bm (m:=m) w3;unfold eW;cases ha:v'.isAgg with
     |true=>exact⟨uc,by simp[toV,ha],w3.one,hr⟩
     |false=>obtain⟨q,rfl,_⟩:=w3.single ha;have hc:=hr.length;obtain⟨bb,hbb⟩:=Lg.1 (hc.symm.trans rfl);rw[hbb]at hr ⊢;exact⟨bb,rfl,by simpa[toV,ha]using hr.1⟩
    |false=>simp only[UB]at h;refine aB hi hG (v:=u) (sv:=.av (.val v' ((df k' v' key l).getD (bk v')))) ?_ ⟨uc,w2,w3⟩ h;simp[execOp,ho,w1]
   simp at h
  simp at h
 simp at h
theorem sB {t:TypeId}{x ix y:Operand}(hM:nh P C)(hi:Inv C w0 M m)(hG:m.G=s.G)(hS:∀ x,RelSV m (a.eval x) (ah C s.env x))(ho:o.op=.mapUpdate t x ix y){s':St}
  (h:aZ C o s some=some s'):Does P o a m.w (Res C w0 M m s s' o.dst):=by
 simp only[au,aK,ho]at h;split at h
 ·rename_i p id hp hx;obtain⟨k,v⟩:=p;have hxr:=hS x;rw[hx]at hxr;split at h
  ·rename_i k' v' l hg;obtain⟨l',hl,h⟩:=A6.1 h;obtain⟨e1,e2,hl⟩:=eX hl;simp only at e1 e2;subst e1;subst e2
   simp only at hl;subst hl;split at h
   ·rename_i key val hk hy;simp only[aw]at h;obtain⟨kt,vt,hT⟩:=hM t k' v' hp;obtain⟨b,es,clock,u1,u0,u2,u3,ust⟩:=nf hi hT.more (hG ▸ hg) hxr;rw[<- hG]at hk hy;obtain⟨cs,c1,c2⟩:=db hi hk (hS ix);have c3:Rd m.w m.F k' cs key:=jV (gH hT.plain) c2 _ _;obtain⟨ys,d1,d2⟩:=db hi hy (hS y);have d3:Rd m.w m.F v' ys val:=jV hT.flat d2 _ _;have hfind:=mR hT c3 u3 m.w;have hask:=hT.ask m.w m.F cs key false c3 m.w;have hund:P.underlying t=some (.map kt vt):=hT.und;have hb:=(Jt.1 u2).1;have step {es':Array MapEntry} {clock':Nat} (hrun:(Instr.mapUpdate t (a.eval x) (a.eval ix) (a.eval y)).run P m.w=.ok () { m.w with heap:=m.w.heap.setIfInBounds b (.map es' clock') })
      (hents:EntsW m.w m.F k' v' es'.toList (iV k' v' key val l)) (hst:Stp es'.toList clock'):Does P o a m.w (Res C w0 M m s s' o.dst):=by
     have hw:Wrote m.w b { m.w with heap:=m.w.heap.setIfInBounds b (.map es' clock') }:=⟨rfl,rfl,rfl,by simp,λq hq=>by simp[Ki,Ne.symm hq]⟩;obtain⟨g1,g2⟩:=di hi (id:=id) (o:=.map k' v' l) (o':=.map k' v' (iV k' v' key val l)) (b:=b) (hG▸hg) rfl (by rw[u0];rfl) ⟨rfl,rfl⟩ hw (λhe=>
      .inl ⟨hT.more,b,es',clock',u0,by simp[Ki,hb],hents.mono he.fro,hst⟩)
     refine Does.skip (w':={ m.w with heap:=m.w.heap.setIfInBounds b (.map es' clock') }) (by simp[execOp,ho,hrun]) ⟨_,.av .undef,rfl,?_,g1,g2,rfl⟩;rw[<- h,hG];rfl
    cases hix:cS k' v' key l with
    |none=>
     rw[hix]at hfind;refine step (es':=es.push { key:=toV k' cs,val:=toV v' ys,born:=clock }) (clock':=clock+1) ?_ ?_ (by rw[L7];exact DH ust)
     ·rw[u1,c1,d1];simp[Instr.mapUpdate,run_underlying hund,MapKept.run_getObj_map u2,hask,hfind,MapKept.run_setObj_map _ u2,Result.andThen]
     have e:iV k' v' key val l=l++[(key,val)]:=by rw[lY,hix]
     rw[e,L7];refine⟨by simp[u3.1],λi h1 h2=>?_⟩;by_cases hil:i<l.length
     ·have hie:i<es.toList.length:=by rw[u3.1];exact hil
      rw[JJ hie,JJ hil];exact u3.2 i hie hil
     have:i=l.length:=by simp at h2;omega
     subst this;rw[JL (by rw[u3.1];exact B2 _),JL (B2 _)];simp only[u3.1,Nat.sub_self,List.getElem_cons_zero];exact⟨⟨cs,rfl,c3⟩,ys,rfl,d3⟩
    |some j=>
     rw[hix]at hfind;obtain⟨hj,heq⟩:=og hix;have hje:j<es.toList.length:=by rw[u3.1];exact hj
     have hja:j<es.size:=by simpa using hje
     obtain⟨⟨kc,k1,k2⟩,_⟩:=u3.2 j hje hj;have hkey:key=l[j].1:=qo hT.plain heq;have hkk:es.toList[j].key=toV k' cs:=by rw[k1];have:=sF hT.plain c3 (hkey▸k2);rw[this]
     refine step (es':=es.modify j λe=>{ e with key:=toV k' cs,val:=toV v' ys }) (clock':=clock) ?_ ?_ (sg ust (by rw[Array.toList_modify,oO (by intro e;rfl) es.toList j];exact Lc _))
     ·rw[u1,c1,d1];have hbits:=At hT.plain c3 9999;have hes:es[j]?=some es[j]:=Kt hja;have hkk':es[j].key=toV k' cs:=by simpa using hkk
      simp only[KB,A1 hje,Lb]at hfind;simp[Instr.mapUpdate,run_underlying hund,MapKept.run_getObj_map u2,hask,hfind,MapKept.run_setObj_map _ u2,Result.andThen,hes,hkk',Instr.keyThatStays,hbits]
     have e:iV k' v' key val l=l.set j (l[j].1,val):=by rw[lY,hix];simp[A1 hj]
     rw[e];refine⟨by simp[<- u3.1],λi h1 h2=>?_⟩;simp only[List.length_set]at h2;have hie:i<es.toList.length:=by rw[u3.1];exact h2
     by_cases hij:j=i
     ·subst hij;simp only[LQ,LR,if_true,List.getElem_set_self];exact⟨⟨cs,rfl,hkey▸c3⟩,ys,rfl,d3⟩
     have:=u3.2 i hie h2;simp only[LQ,LR,if_neg hij,List.getElem_set_ne hij];simpa using this
   simp at h
  simp at h
 simp at h
end
end Go.Vm

/-
 What an operation comes to does not hang on what goes on behind it.
-/
namespace Go.Vm
section
variable {C:Ctx}{s:St}{R S:Type}{K:S->Option R}
theorem aE{x y:Option R}{x0 y0:Option S}{b:Bool}(h1:x=x0.bind K)(h2:y=y0.bind K):cond b x y=(cond b x0 y0).bind K:=by cases b<;>assumption
theorem lx{c:Prop}[Decidable c]{x y:Option R}{x0 y0:Option S}(h1:x=x0.bind K)(h2:y=y0.bind K):(if c then x else y)=(if c then x0 else y0).bind K:=by split<;>assumption
theorem bg{α:Type}{x:Option α}{F:α->Option R}{F0:α->Option S}(h:∀ a,F a=(F0 a).bind K):x.bind F=(x.bind F0).bind K:=by
 cases x with
 |none=>rfl
 |some a=>exact h a
theorem bU{site:Nat}{ob:Obj}{F:Nat->St->Option R}{F0:Nat->St->Option S}(h:∀ i s,F i s=(F0 i s).bind K):bj s site ob F=(bj s site ob F0).bind K:=
 aE rfl (h _ _)
theorem iI{v:SV}{F:Int->Option R}{F0:Int->Option S}(h:∀ n,F n=(F0 n).bind K):asI v F=(asI v F0).bind K:=by
 unfold asI;split
 ·exact h _
 rfl
theorem nU{v:SV}{F:Int->Option R}{F0:Int->Option S}(h:∀ n,F n=(F0 n).bind K):kn v F=(kn v F0).bind K:=by
 unfold kn;split
 ·exact h _
 rfl
theorem DR{e:Env}{d:Int}{x:Option Operand}{F:Int->Option R}{F0:Int->Option S}(h:∀ n,F n=(F0 n).bind K):vo C e d x F=(vo C e d x F0).bind K:=by
 cases x with
 |none=>exact h _
 |some x=>exact iI h
theorem pU{sz:Nat}{i:Int}{F:List Atom->Option R}{F0:List Atom->Option S}(h:∀ c,F c=(F0 c).bind K):∀(k j:Nat) (l:List Atom),gO k sz l i j F=(gO k sz l i j F0).bind K
 |0,_,_=>rfl
 |k+1,j,l=>by
  unfold gO;refine aE ?_ (pU h k (j+1) _);split
  ·exact h _
  rfl
theorem uG{t:Nat}{x:SV}{i:Int}{F:Atom->Option R}{F0:Atom->Option S}(h:∀ n,F n=(F0 n).bind K):indexAt C s t x i F=(indexAt C s t x i F0).bind K:=by
 unfold indexAt;split
 ·exact bg λ_=>h _
 ·split
  ·exact bg λ_=>h _
  rfl
 ·split
  ·exact bg λ_=>h _
  rfl
 ·split
  ·exact bg λ_=>h _
  rfl
 ·split
  ·exact bg λ_=>h _
  rfl
 ·split
  ·exact aE (bg λ_=>h _) rfl
  rfl
 ·exact bg λ_=>h _
 ·split
  ·exact lx (aE (h _) (h _)) rfl
  rfl
 ·split
  ·exact lx (h _) rfl
  rfl
 rfl
theorem va{τ:Ty}{p:Atom}{F:SV->Option R}{F0:SV->Option S}(h:∀ n,F n=(F0 n).bind K):loadAt s τ p F=(loadAt s τ p F0).bind K:=by
 unfold loadAt;split
 ·split
  ·split
   ·exact h _
   rfl
  rfl
 ·split
  ·refine bg λ_=>?_;split
   ·split
    ·exact h _
    rfl
   rfl
  ·exact aE (h _) rfl
  rfl
 ·split
  ·refine aE (bg λ_=>?_) rfl;split
   ·exact h _
   rfl
  rfl
 ·split
  ·exact h _
  rfl
 ·split
  ·split
   ·exact aE (h _) rfl
   rfl
  rfl
 rfl
theorem Dq{hole:Option Nat}{j:Nat}{F:Option R}{F0:Option S}(h:F=F0.bind K):um hole j F=(um hole j F0).bind K:=by
 unfold um;split
 ·exact h
 exact lx h rfl
theorem tm{τ:Ty}{p:Atom}{v:SV}{F:St->Option R}{F0:St->Option S}(h:∀ n,F n=(F0 n).bind K):storeAt s τ p v F=(storeAt s τ p v F0).bind K:=by
 unfold storeAt;split
 ·split
  ·split
   ·refine aE ?_ rfl;split
    ·exact h _
    rfl
   rfl
  rfl
 ·split
  ·split
   ·refine bg λ_=>?_;split
    ·exact aE rfl (h _)
    rfl
   rfl
  ·refine aE ?_ rfl;split
   ·exact Dq (h _)
   rfl
  rfl
 ·split
  ·refine aE ?_ rfl;split
   ·exact h _
   rfl
  rfl
 ·split
  ·split
   ·exact aE (h _) rfl
   rfl
  rfl
 rfl
theorem zz{v:SV}{F:Int->Option R}{F0:Int->Option S}(h:∀ n,F n=(F0 n).bind K):lenOf s v F=(lenOf s v F0).bind K:=by
 unfold lenOf;split
 ·exact h _
 ·exact h _
 ·exact h _
 ·split
  ·exact h _
  rfl
 ·split
  ·exact h _
  rfl
 ·split
  ·exact h _
  rfl
 ·split
  ·exact h _
  rfl
 ·split
  ·exact aE (h _) rfl
  rfl
 rfl
theorem mz{mx:Bool}{F:Int->Option R}{F0:Int->Option S}(h:∀ n,F n=(F0 n).bind K):∀(l:List SV) (a:Int),iL mx a l F=(iL mx a l F0).bind K
 |[],a=>h a
 |v::l,a=>nU λb=>mz h l _
theorem kI{x:SV}{lo:Int}{hi mx:Option Int}{F:SV->Option R}{F0:SV->Option S}(h:∀ n,F n=(F0 n).bind K):dJ s x lo hi mx F=(dJ s x lo hi mx F0).bind K:=by
 unfold dJ;split
 ·exact bg λ_=>h _
 ·exact bg λ_=>h _
 ·exact lx (h _) rfl
 ·exact lx (h _) rfl
 ·split
  ·exact bg λ_=>h _
  rfl
 ·exact bg λ_=>h _
 ·split
  ·exact bg λ_=>lx (h _) rfl
  rfl
 rfl
theorem mD{site f:Nat}{vs:List SV}{F:SV->St->Option R}{F0:SV->St->Option S}(h:∀ v s,F v s=(F0 v s).bind K):eJ C s site f vs F=(eJ C s site f vs F0).bind K:=by
 unfold eJ;split
 ·exact aE (bg λ_=>h _ _) rfl
 split
 case h_2=>rfl
 unfold jH;split
 ·split
  ·refine bg λ_=>aE ?_ rfl;split
   ·split
    ·split
     ·exact h _ _
     rfl
    rfl
   rfl
  rfl
 rfl
end
section
variable {C:Ctx}{s:St}{R:Type}{K:St->Option R}{o:Oper}
theorem lr(hb:∀ op xt x y yt,o.op≠.binOp op xt x y yt):aZ C o s K=(aZ C o s some).bind K:=by
 obtain⟨oo,hoo⟩:∃ oo,oo=o.op:=⟨_,rfl⟩;simp only[au];unfold aK;dsimp only;rw[<- hoo]at hb ⊢;clear hoo;split
 ·rfl
 ·rfl
 ·split
  ·exact aE rfl rfl
  rfl
 ·split
  ·exact bU λ_ _=>rfl
  rfl
 ·split
  ·split
   ·exact bU λ_ _=>rfl
   rfl
  rfl
 ·split
  ·refine aE ?_ rfl;split
   ·rfl
   rfl
  rfl
 ·split
  ·refine aE (aE ?_ ?_) rfl
   ·split
    ·split
     ·exact aE (bU λ_ _=>rfl) rfl
     rfl
    rfl
   split
   ·exact bU λ_ _=>rfl
   rfl
  rfl
 ·split
  ·exact va λ_=>rfl
  rfl
 ·split
  ·exact tm λ_=>rfl
  rfl
 ·split
  ·split
   ·rfl
   rfl
  ·split
   ·rfl
   ·rfl
   rfl
  ·rfl
  ·rfl
  ·rfl
  ·split
   ·rfl
   rfl
  rfl
 ·exact absurd rfl (hb _ _ _ _ _)
 ·split
  ·rfl
  ·rfl
  rfl
 ·split
  ·rfl
  ·exact bU λ_ _=>rfl
  ·split
   ·rfl
   rfl
  ·rfl
  rfl
 ·split
  ·exact iI λ_=>iI λ_=>bg λ_=>bU λ_ _=>rfl
  rfl
 ·refine DR λ_=>aE rfl ?_;split
  ·exact kI λ_=>rfl
  ·exact iI λ_=>kI λ_=>rfl
  ·exact iI λ_=>iI λ_=>kI λ_=>rfl
  rfl
 ·split
  ·split
   ·split
    ·exact aE rfl rfl
    rfl
   rfl
  ·split
   ·split
    ·refine aE ?_ rfl;split
     ·exact aE rfl rfl
     rfl
    rfl
   rfl
  ·split
   ·refine aE ?_ rfl;split
    ·exact aE rfl rfl
    rfl
   rfl
  rfl
 ·split
  ·split
   ·split
    ·split
     ·rfl
     rfl
    rfl
   rfl
  ·split
   ·refine aE ?_ rfl;split
    ·rfl
    rfl
   rfl
  rfl
 ·exact iI λ_=>aE (uG λ_=>rfl) rfl
 ·refine iI λ_=>?_;split
  ·exact bg λ_=>rfl
  ·exact pU (F0:=λc=>some (ag o.dst (d8 _ c) s)) (λ_=>rfl) _ _ _
  ·exact bg λ_=>bg λ_=>rfl
  rfl
 ·split
  ·split
   ·rfl
   ·rfl
   rfl
  rfl
 ·split
  ·exact bU λ_ _=>rfl
  rfl
 ·split
  ·exact bU λ_ _=>rfl
  rfl
 ·split
  ·split
   ·exact bg λ_=>aE rfl rfl
   rfl
  rfl
 ·split
  ·split
   ·refine bg λ_=>?_;split
    ·exact aE rfl rfl
    rfl
   rfl
  rfl
 ·split
  ·split
   ·refine bg λ_=>?_;split
    ·rfl
    rfl
   rfl
  rfl
 ·split
  ·rfl
  ·split
   ·exact bg λ_=>rfl
   rfl
  ·split
   ·rfl
   rfl
  rfl
 ·split
  ·split
   ·refine aE ?_ rfl;split
    ·exact bg λ_=>aE rfl rfl
    rfl
   exact aE (zz λ_=>rfl) rfl
  rfl
 ·split
  ·split
   ·rfl
   rfl
  rfl
 ·split
  ·exact nU λ_=>by refine mz ?_ _ _;intro n;rfl
  rfl
 ·split
  ·exact nU λ_=>by refine mz ?_ _ _;intro n;rfl
  rfl
 ·split
  ·split
   ·refine aE (aE ?_ ?_) (by split<;>first|exact aE (bU λ_ _=>rfl) rfl|rfl)
    ·split
     ·split
      ·exact bg λ_=>aE (bU λ_ _=>rfl) rfl
      rfl
     rfl
    split
    ·exact bg λ_=>bU λ_ _=>rfl
    ·rfl
    split
    ·exact bg λ_=>bU λ_ _=>rfl
    rfl
   rfl
  rfl
 ·split
  ·split
   ·split
    ·exact aE rfl rfl
    rfl
   rfl
  rfl
 ·split
  ·split
   ·split
    ·refine aE ?_ rfl;split
     ·rfl
     rfl
    rfl
   rfl
  rfl
 ·split
  ·exact mD λ_ _=>rfl
  ·exact mD λ_ _=>rfl
  ·split
   ·exact mD λ_ _=>rfl
   rfl
  rfl
 rfl
end
end Go.Vm

/-
 What a call asks and what it gives, in terms of memory.
-/
namespace Go.Vm
def az:List (Mode×Ty)->List Value->List Value
 |(.rd,_)::r,_::us=>az r us
 |(_,_)::r,u::us=>u::az r us
 |_,_=>[]
def ba:List (Mode×Ty)->List Value->List Value
 |(.upd,_)::r,u::us=>u::ba r us
 |(.box _,_)::r,u::us=>u::ba r us
 |(_,_)::r,_::us=>ba r us
 |_,_=>[]
def kN(w:World)(F:Nat->Prop)(d:Bool):(e:Ty)->Value->List e.den->Prop
 |.slice σ,g,x=>cond d (∃ u hs,g=.tuple (u::hs).toArray/\DeepW w F u hs σ x none) (HdrW w F g (.slice σ) x)
 |e,g,x=>HdrW w F g e x
def aP:Value->Value
 |.tuple us=>us.getD 0 undef
 |v=>v
def fa:Value->List Value
 |.tuple us=>us.toList
 |v=>[v]
theorem jC{v:Value}{b:Nat}:HB v b↔∃ u∈fa v,HB1 u b:=by cases v<;>simp[HB,fa]
def BoxRd(w:World)(F:Nat->Prop)(k:List Nat):(o:Nat)->(τ:Ty)->List Value->τ.den->Prop
 |o,.prod a b,cs,x=>∃ c1 c2,cs=c1++c2/\BoxRd w F k o a c1 x.1/\BoxRd w F k (o+a.size) b c2 x.2
 |o,.slice e,cs,x=>cond (A7 (dE k o) 0) (Rd w F (.slice e) cs x) (∃ u,cs=[u]/\kN w F (A7 (dE k o) 2) e u x)
 |_,.unit,cs,_=>cs=[]
 |_,.int k,cs,x=>Rd w F (.int k) cs x
 |_,.bool,cs,x=>Rd w F .bool cs x
 |_,.str,cs,x=>Rd w F .str cs x
 |_,.ptr e,cs,x=>Rd w F (.ptr e) cs x
 |_,_,_,_=>False
def bn(k:List Nat):(o:Nat)->(τ:Ty)->List Value->List Value
 |o,.prod a b,cs=>bn k o a (cs.take a.size)++bn k (o+a.size) b (cs.drop a.size)
 |o,.slice _,cs=>cond (A7 (dE k o) 0) [] cs
 |_,_,_=>[]
def jl(p:Value)(hs:List Value):Value:=.tuple (p::hs.flatMap fa).toArray
theorem eB{p:Value}{hs:List Value}{b:Nat}:HB (jl p hs) b↔HB1 p b\/∃ u∈hs,HB u b:=by
 unfold jl;simp only[HB,A8,Lh];constructor
 ·rintro⟨u,rfl|⟨h,hh,hu⟩,hb⟩
  ·exact .inl hb
  exact .inr ⟨h,hh,jC.2 ⟨u,hu,hb⟩⟩
 rintro(hb|⟨h,hh,hb⟩)
 ·exact⟨p,.inl rfl,hb⟩
 obtain⟨u,hu,hb⟩:=jC.1 hb;exact⟨u,.inr ⟨h,hh,hu⟩,hb⟩
def zZ(w:World)(F:Nat->Prop)(k:List Nat)(T:Ty)(u:Value)(x:T.den):Prop:=
 ∃ b c el cs,u=jl (.pointer (some ⟨b,0,none⟩)) (bn k 0 T cs)/\w.heap[b]?=some (.cells c el (0,0))/\c.toList=cs.map aP/\BoxRd w F k 0 T cs x/\cm (.pointer (some ⟨b,0,none⟩)::bn k 0 T cs)
def ArgRd(w:World)(F:Nat->Prop):Mode->(τ:Ty)->Value->τ.den->Prop
 |.rd,τ,u,x=>∃ cs,u=toV τ cs/\Rd w F τ cs x
 |.upd,.slice e,u,x=>HdrW w F u e x
 |.take,.slice e,u,x=>HdrW w F u e x
 |.box k,.ptr T,u,x=>zZ w F k T u x
 |_,_,_,_=>False
def ArgsRd(w:World)(F:Nat->Prop):(ins:List (Mode×Ty))->List Value->(ac (ins.map (·.2))).den->Prop
 |[],[],_=>True
 |p::r,u::us,x=>ArgRd w F p.1 p.2 u x.1/\ArgsRd w F r us x.2
 |_,_,_=>False
structure Pre (glob:List (Nat×(Σ t:Ty,t.den)))(w:World)(F:Nat->Prop)(ins:List (Mode×Ty))(us:List Value)(x:(ac (ins.map (·.2))).den):Prop where
 args:ArgsRd w F ins us x
 own:∀ u∈az ins us,∀ b,HB u b->¬F b/\b<w.heap.size
 apart:cm (az ins us)
 fro:∀ b,F b->b<w.heap.size
 glob:∀ g τ x,fJ glob g=some ⟨τ,x⟩->Rd w F (.ptr τ) [.pointer (some ⟨g,0,none⟩)] x
def OwnRd(w:World)(F:Nat->Prop)(d:Bool):(τ:Ty)->List Value->τ.den->Prop
 |.prod a b,cs,x=>∃ c1 c2,cs=c1++c2/\OwnRd w F d a c1 x.1/\OwnRd w F d b c2 x.2
 |.unit,cs,_=>cs=[]
 |.slice e,cs,x=>∃ u,cs=[u]/\kN w F d e u x
 |.int k,cs,x=>Rd w F (.int k) cs x
 |.bool,cs,x=>Rd w F .bool cs x
 |.str,cs,x=>Rd w F .str cs x
 |.ptr T,cs,x=>∃ u,cs=[u]/\zZ w F (dm d T) T u x
 |.clo g .unit,cs,x=>Rd w F (.clo g .unit) cs x
 |_,_,_=>False
def aO:(τ:Ty)->List Value->List Value
 |.prod a b,cs=>aO a (cs.take a.size)++aO b (cs.drop a.size)
 |.slice _,cs=>cs
 |.ptr _,cs=>cs
 |_,_=>[]
def OutsRd(w:World)(F:Nat->Prop)(d:Bool):(outs:List (Bool×Ty))->List (List Value)->(ac (outs.map (·.2))).den->Prop
 |[],[],_=>True
 |p::r,cs::css,x=>cond p.1 (OwnRd w F d p.2 cs x.1) (Rd w F p.2 cs x.1)/\OutsRd w F d r css x.2
 |_,_,_=>False
def bS:List (Bool×Ty)->List (List Value)->List Value
 |p::r,cs::css=>cond p.1 (aO p.2 cs) []++bS r css
 |_,_=>[]
def kf:List (Bool×Ty)->List (List Value)->List Value
 |p::r,cs::css=>toV p.2 (cond p.1 (cs.map aP) cs)::kf r css
 |_,_=>[]
def eL:List Value->Value
 |[u]=>u
 |us=>.tuple us.toArray
def MutsRd(w:World)(F:Nat->Prop):(ins:List (Mode×Ty))->List Value->(ac (aN ins)).den->Prop
 |[],_,_=>True
 |(.rd,_)::r,_::us,y=>MutsRd w F r us y
 |(.take,_)::r,_::us,y=>MutsRd w F r us y
 |(.upd,.slice e)::r,u::us,y=>HdrW w F u e y.1/\MutsRd w F r us y.2
 |(.box k,.ptr T)::r,u::us,y=>zZ w F k T u y.1/\MutsRd w F r us y.2
 |_,_,_=>False
def ku:List (Mode×Ty)->List Value->List Value->Prop
 |[],[],[]=>True
 |(.box _,_)::r,u::us,u'::us'=>aP u'=aP u/\ku r us us'
 |_::r,u::us,u'::us'=>u'=u/\ku r us us'
 |_,_,_=>False
def cL(l:List Value)(b:Nat):Prop:=∃ u∈l,HB u b
structure PostB (w:World)(F:Nat->Prop)(ins:List (Mode×Ty))(us us':List Value)(outs:List (Bool×Ty))(r:(ac (outs.map (·.2)++aN ins)).den)(v:Value)(w':World)(F2:Nat->Prop)(css:List (List Value))(d:Bool:=false):Prop where
 kept:Kept w (cL (az ins us)) w'
 fro:∀ b,F b->F2 b
 f2:∀ b,F2 b->b<w'.heap.size/\(F b\/cL (az ins us) b\/w.heap.size<=b)
 val:v=eL (kf outs css)
 res:OutsRd w' F2 d outs css (ef (outs.map (·.2)) (aN ins) r).1
 muts:MutsRd w' F2 ins us' (ef (outs.map (·.2)) (aN ins) r).2
 apart:cm (bS outs css++ba ins us')
 own:∀ u∈bS outs css++ba ins us',∀ b,HB u b->(w.heap.size<=b\/cL (az ins us) b)/\¬F2 b/\b<w'.heap.size
abbrev AI(w:World)(F:Nat->Prop)(ins:List (Mode×Ty))(us:List Value)(outs:List (Bool×Ty))(r:(ac (outs.map (·.2)++aN ins)).den)(v:Value)(w':World)(F2:Nat->Prop)(css:List (List Value))(d:Bool:=false):Prop:=
 PostB w F ins us us outs r v w' F2 css d
def Goes(P:Program)(f:FuncId)(vs:Array Value)(w:World)(R:Value->World->Prop):Prop:=
 ((callFunc f vs).run P w=.ok (.enter f vs) w/\Calls P f vs w λe w'=>∃ v,e=.returned v/\R v w')\/∃ v w',(callFunc f vs).run P w=.ok (.value v) w'/\R v w'
def Con.Holds(P:Program)(glob:List (Nat×(Σ t:Ty,t.den)))(f:FuncId)(c:Con):Prop:=
 ∀(w:World) (F:Nat->Prop) (us:List Value) (x:(ac (c.ins.map (·.2))).den) (r:(ac (c.outs.map (·.2)++aN c.ins)).den),Pre glob w F c.ins us x->c.fn x=some r ->
  Goes P f (us.map aP).toArray w λv w'=>∃ us' F2 css,ku c.ins us us'/\PostB w F c.ins us us' c.outs r v w' F2 css c.deep
section
variable {P:Program}{C:Ctx}{w0:World}{M:Own}{o:Oper}{a:Act}{m:Mem}{s s':St}
theorem Rd.flat{w:World}{F:Nat->Prop}:∀{τ:Ty} {cs:List Value} {x:τ.den},τ.flat=true->Rd w F τ cs x->∀(w':World) (F':Nat->Prop),Rd w' F' τ cs x
 |.int _,_,_,_,h,_,_=>h
 |.bool,_,_,_,h,_,_=>h
 |.str,_,_,_,h,_,_=>h
 |.prod a b,_,_,hf,h,_,_=>by simp only[Ty.flat,np]at hf;obtain⟨c1,c2,h1,h2,h3⟩:=h;exact⟨c1,c2,h1,Rd.flat hf.1 h2 _ _,Rd.flat hf.2 h3 _ _⟩
 |.unit,_,_,_,h,_,_=>h
 |.arr n e,_,_,hf,h,_,_=>by obtain⟨h1,h2,h3⟩:=h;exact⟨h1,h2,λi hi=>Rd.flat (by simpa[Ty.flat]using hf) (h3 i hi) _ _⟩
 |.slice _,_,_,hf,_,_,_=>by simp[Ty.flat]at hf
 |.ptr _,_,_,hf,_,_,_=>by simp[Ty.flat]at hf
 |.clo _ _,_,_,hf,_,_,_=>by simp[Ty.flat]at hf
theorem HdrW.flat{w:World}{F F':Nat->Prop}{u:Value}{e:Ty}{l:List e.den}(hf:e.flat=true)(h:HdrW w F u e l):HdrW w F' u e l:=by obtain⟨ad,cap,h1,h2,h3,h4⟩:=h;refine⟨ad,cap,h1,h2,h3,λhc=>?_⟩;obtain⟨b,off,c,el,fz,q1,q2,q3,q4,q5⟩:=h4 hc;exact⟨b,off,c,el,fz,q1,q2,q3,q4,λi hi=>(q5 i hi).flat hf _ _⟩
theorem bZ{v:Value}(h:v.oneCell'=true):aP v=v:=by cases v<;>simp_all[aP,Value.oneCell']
theorem yP{cs:List Value}(h:∀ u∈cs,u.oneCell'=true):cs.map aP=cs:=by
 induction cs with
 |nil=>rfl
 |cons c cs ih=>simp only[JA];rw[bZ (h c (by simp)),ih λu hu=>h u (by simp[hu])]
theorem kw {w:World}{F:Nat->Prop}{d:Bool}{e:Ty}{g:Value}{x:List e.den}(h:kN w F d e g x) :
  (gW d e x=.arr e x/\(∀ i,eQ d e i=.own i)/\HdrW w F g e x)\/∃ σ y,e=.slice σ/\d=true/\gW d e x=.deep 0 σ y none/\(∀ i,eQ d e i=.ownd i)/\∃ u hs,g=.tuple (u::hs).toArray/\DeepW w F u hs σ y none:=by
 cases e with
 |slice σ=>
  cases d with
  |true=>exact .inr ⟨σ,x,rfl,rfl,rfl,λ_=>rfl,h⟩
  |false=>exact .inl ⟨rfl,λ_=>rfl,h⟩
 |_=>exact .inl ⟨by cases d<;>rfl,λ_=>by cases d<;>rfl,h⟩
theorem rz{w:World}{F:Nat->Prop}{d:Bool}{e:Ty}{g:Value}{x:List e.den}(h:kN w F d e g x):(aP g).oneCell'=true:=by
 rcases kw h with⟨_,_,h⟩|⟨σ,y,_,_,_,_,u,hs,rfl,_⟩
 ·have:=bA h;rw[bZ this];exact this
 rename_i hd;show((u::hs).toArray.getD 0 undef).oneCell'=true;simpa using hd.one u (by simp)
theorem mf{w w':World}{F F':Nat->Prop}(hF:∀ b,F b->F' b/\w'.heap[b]?=w.heap[b]?){d:Bool}{e:Ty}{g:Value}{x:List e.den}(hu:∀ b,HB g b->w'.heap[b]?=w.heap[b]?)(h:kN w F d e g x):kN w' F' d e g x:=by
 cases e with
 |slice σ=>
  cases d with
  |true=>obtain⟨u,hs,rfl,h⟩:=h;exact⟨u,hs,rfl,h.mono hF λv hv b hb=>hu b ((bY h.one).2 ⟨v,hv,hb⟩)⟩
  |false=>exact HdrW.mono (e:=.slice σ) hF hu h
 |_=>exact HdrW.mono hF hu h
theorem br{w:World}{F:Nat->Prop}{τ:Ty}{cs:List Value}{x:τ.den}(h:Rd w F τ cs x):cs.map aP=cs:=yP h.one
theorem BoxRd.len{w:World}{F:Nat->Prop}{k:List Nat}:∀{o:Nat} {τ:Ty} {cs:List Value} {x:τ.den},BoxRd w F k o τ cs x->cs.length=τ.size
 |_,.prod a b,_,_,h=>by obtain⟨c1,c2,rfl,h1,h2⟩:=h;simp[Ty.size,h1.len,h2.len]
 |_,.unit,_,_,h=>by unfold BoxRd at h;subst h;rfl
 |o,.slice e,_,_,h=>by
  unfold BoxRd at h;cases hk:A7 (dE k o) 0 with
  |true=>rw[hk]at h;exact Rd.len (τ:=.slice e) h
  |false=>rw[hk]at h;obtain⟨u,rfl,_⟩:=h;rfl
 |_,.int k,_,_,h=>Rd.len (τ:=.int k) h
 |_,.bool,_,_,h=>Rd.len (τ:=.bool) h
 |_,.str,_,_,h=>Rd.len (τ:=.str) h
 |_,.arr _ _,_,_,h=>h.elim
 |_,.ptr e,_,_,h=>Rd.len (τ:=.ptr e) h
 |_,.clo _ _,_,_,h=>h.elim
theorem BoxRd.one{w:World}{F:Nat->Prop}{k:List Nat}:∀{o:Nat} {τ:Ty} {cs:List Value} {x:τ.den},BoxRd w F k o τ cs x->∀ u∈cs.map aP,u.oneCell'=true
 |_,.prod a b,_,_,h=>by
  obtain⟨c1,c2,rfl,h1,h2⟩:=h;intro u hu;rw[KY]at hu;rcases A4.1 hu with hu|hu
  ·exact h1.one u hu
  exact h2.one u hu
 |_,.unit,_,_,h=>by unfold BoxRd at h;subst h;simp
 |o,.slice e,cs,_,h=>by
  unfold BoxRd at h;cases hk:A7 (dE k o) 0 with
  |true=>rw[hk]at h;rw[br (τ:=.slice e) h];exact Rd.one (τ:=.slice e) h
  |false=>rw[hk]at h;obtain⟨u,rfl,h⟩:=h;intro u' hu;simp only[JA,LO,B4]at hu;subst hu;exact rz h
 |_,.int k,cs,_,h=>by rw[br (τ:=.int k) h];exact Rd.one (τ:=.int k) h
 |_,.bool,cs,_,h=>by rw[br (τ:=.bool) h];exact Rd.one (τ:=.bool) h
 |_,.str,cs,_,h=>by rw[br (τ:=.str) h];exact Rd.one (τ:=.str) h
 |_,.arr _ _,_,_,h=>h.elim
 |_,.ptr e,cs,_,h=>by have h:Rd w F (.ptr e) cs _:=h;rw[br h];exact h.one
 |_,.clo _ _,_,_,h=>h.elim
theorem BoxRd.mono{w w':World}{F F':Nat->Prop}{k:List Nat}(hF:∀ b,F b->F' b/\w'.heap[b]?=w.heap[b]?):∀{o:Nat} {τ:Ty} {cs:List Value} {x:τ.den},BoxRd w F k o τ cs x->(∀ u∈bn k o τ cs,∀ b,HB u b->w'.heap[b]?=w.heap[b]?)->BoxRd w' F' k o τ cs x
 |o,.prod a b,_,_,h,hu=>by obtain⟨c1,c2,rfl,h1,h2⟩:=h;simp only[bn,<- h1.len,KF,KT]at hu;exact⟨c1,c2,rfl,h1.mono hF (λu hu'=>hu u (by simp[hu'])),h2.mono hF (λu hu'=>hu u (A4.2 (.inr (by rw[h1.len];exact hu'))))⟩
 |_,.unit,_,_,h,_=>h
 |o,.slice e,_,_,h,hu=>by
  unfold BoxRd at h ⊢;unfold bn at hu;cases hk:A7 (dE k o) 0 with
  |true=>rw[hk]at h;exact Rd.mono (τ:=.slice e) hF h
  |false=>rw[hk]at h hu;obtain⟨u,rfl,h⟩:=h;exact⟨u,rfl,mf hF (hu u (by simp)) h⟩
 |_,.int k,_,_,h,_=>Rd.mono (τ:=.int k) hF h
 |_,.bool,_,_,h,_=>Rd.mono (τ:=.bool) hF h
 |_,.str,_,_,h,_=>Rd.mono (τ:=.str) hF h
 |_,.arr _ _,_,_,h,_=>h.elim
 |_,.ptr e,_,_,h,_=>Rd.mono (τ:=.ptr e) hF h
 |_,.clo _ _,_,_,h,_=>h.elim
theorem ArgRd.mono{w:World}{F F':Nat->Prop}(hF:∀ b,F b->F' b){md:Mode}{τ:Ty}{u:Value}{x:τ.den}(h:ArgRd w F md τ u x):ArgRd w F' md τ u x:=by
 cases md with
 |rd=>obtain⟨cs,h1,h2⟩:=h;exact⟨cs,h1,h2.mono λb hb=>⟨hF b hb,rfl⟩⟩
 |upd=>cases τ<;>first|exact HdrW.mono (λb hb=>⟨hF b hb,rfl⟩) (λ_ _=>rfl) h|exact h.elim
 |take=>cases τ<;>first|exact HdrW.mono (λb hb=>⟨hF b hb,rfl⟩) (λ_ _=>rfl) h|exact h.elim
 |box k=>
  cases τ<;>first|exact h.elim|skip
  obtain⟨b,c,el,cs,h1,h2,h3,h4,h5⟩:=h;exact⟨b,c,el,cs,h1,h2,h3,BoxRd.mono (λb hb=>⟨hF b hb,rfl⟩) h4 (λ_ _ _ _=>rfl),h5⟩
theorem kO{G:Heap}{τ:Ty}{r:List (Mode×Ty)}{v:SV}{vs:List SV}:aV G ((.rd,τ)::r) (v::vs)=(cP G v++(aV G r vs).1,(aV G r vs).2):=rfl
theorem kj{G:Heap}{τ:Ty}{r:List (Mode×Ty)}{v:SV}{vs:List SV}:aV G ((.upd,τ)::r) (v::vs)=((aV G r vs).1,bJ v++(aV G r vs).2):=rfl
theorem jk{G:Heap}{τ:Ty}{r:List (Mode×Ty)}{v:SV}{vs:List SV}:aV G ((.take,τ)::r) (v::vs)=((aV G r vs).1,bJ v++(aV G r vs).2):=rfl
def Ge(m:Mem)(v:SV)(u:Value):Prop:=∀ b,HB u b->∃ id o,bJ v=[id]/\m.G.get id=some o/\isObj o=true/\HB (m.ι id) b
theorem mQ (hi:Inv C w0 M m){τ : Ty}{v:SV}{x : τ.den}{u:Value}(hv:aR m.G τ v=some x)(hr:RelSV m u v)(hk:(∃ d0,v=.av (.nils d0))\/(∃ id,v=.av (.own id))\/∃ id o n,v=.av (.view id o n)) :
  ArgRd m.w m.F .take τ u x/\Ge m v u/\(bJ v=[]\/∃ id o,bJ v=[id]/\m.G.get id=some o/\isObj o=true):=by
 cases τ with
 |slice e=>
  have key:fE ⟨[],m.G⟩ e v=some (x,bJ v):=by
   rcases hk with⟨_,rfl⟩|⟨id,rfl⟩|⟨id,off,n,rfl⟩
   ·simp only[aR,Ty.isAgg,UB,aF,aw]at hv;subst hv;rfl
   ·simp only[aR,Ty.isAgg,UB,aF]at hv;cases hg:m.G.get id with
    |none=>rw[hg]at hv;simp at hv
    |some ob=>
     cases ob with
     |arr σ l=>rw[hg]at hv;obtain⟨he,hx⟩:=aD hv;cases he;subst hx;simp[fE,hg,bC,bJ,atomIds]
     |box _=>rw[hg]at hv;simp at hv
     |dead=>rw[hg]at hv;simp at hv
     |deep _ _ _ _=>rw[hg]at hv;simp at hv
     |map _ _ _=>rw[hg]at hv;simp at hv
   simp only[aR,Ty.isAgg,UB,aF]at hv;cases hg:m.G.get id with
   |none=>rw[hg]at hv;simp at hv
   |some ob=>
    cases ob with
    |arr σ l=>rw[hg]at hv;obtain⟨he,hx⟩:=aD hv;cases he;subst hx;simp[fE,hg,bC,bJ,atomIds]
    |box _=>rw[hg]at hv;simp at hv
    |dead=>rw[hg]at hv;simp at hv
    |deep _ _ _ _=>rw[hg]at hv;simp at hv
    |map _ _ _=>rw[hg]at hv;simp at hv
  obtain⟨h1,h2⟩:=kS (s:=⟨[],m.G⟩) hi rfl key hr;refine⟨h1,?_,?_⟩
  ·intro b hbl;rcases h2 with⟨_,ad,rfl⟩|⟨id,ob,h2,h3,h4,h5⟩
   ·cases ad<;>simp[HB,HB1]at hbl
   refine⟨id,ob,h2,h3,h4,?_⟩;rcases h5 with h5|⟨ad,n,rfl⟩
   ·exact h5 b hbl
   cases ad<;>simp[HB,HB1]at hbl
  rcases h2 with⟨h2,_⟩|⟨id,ob,h2,h3,h4,h5⟩
  ·exact .inl h2
  exact .inr ⟨id,ob,h2,h3,h4⟩
 |_=>
  exfalso;rcases hk with⟨_,rfl⟩|⟨id,rfl⟩|⟨id,off,n,rfl⟩<;>simp[aR,Ty.isAgg,aF]at hv
theorem ff {τ : Ty}{r:List (Mode×Ty)}{v:SV}{vs:List SV}{x:(ac (aN ((.take,τ) :: r))).den}{G G':Heap}(h:am ((.take,τ) :: r) (v :: vs) x G=some G') :
  ((∃ d0,v=.av (.nils d0))\/(∃ id,v=.av (.own id))\/∃ id o n,v=.av (.view id o n))/\am r vs x (aq (bJ v) G)=some G':=by
 simp only[am]at h;split at h
 ·exact⟨.inl ⟨_,rfl⟩,h⟩
 ·exact⟨.inr (.inl ⟨_,rfl⟩),h⟩
 ·exact⟨.inr (.inr ⟨_,_,_,rfl⟩),h⟩
 simp at h
theorem fM {e:Ty}{r:List (Mode×Ty)}{v:SV}{vs:List SV}{x:(ac (aN ((.upd,.slice e) :: r))).den}{G G':Heap}(h:am ((.upd,.slice e) :: r) (v :: vs) x G=some G') :
  ((∃ d0,v=.av (.nils d0))/\am r vs x.2 G=some G')\/∃ id,v=.av (.own id)/\am r vs x.2 ((id,.arr e x.1)::G)=some G':=by
 simp only[am]at h;split at h
 ·exact .inl ⟨⟨_,rfl⟩,h⟩
 ·exact .inr ⟨_,rfl,h⟩
 simp at h
end
end Go.Vm

/-
 What a call asks, in terms of memory: the arguments.
-/
namespace Go.Vm
section
variable {P:Program}{C:Ctx}{w0:World}{M:Own}{o:Oper}{a:Act}{m:Mem}{s s':St}
def HdrsOf(m:Mem)(L:List Value)(I:List Nat):Prop:=
 (∀ b,cL L b->∃ id o,id∈I/\m.G.get id=some o/\isObj o=true/\HB (m.ι id) b)/\(aH I=true->cm L)
theorem HdrsOf.nil(m:Mem)(I:List Nat):HdrsOf m [] I:=⟨by rintro b ⟨u,hu,_⟩;simp at hu,λ_=>KH⟩
theorem HdrsOf.append(hi:Inv C w0 M m){L1 L2:List Value}{I1 I2:List Nat}(h1:HdrsOf m L1 I1)(h2:HdrsOf m L2 I2):HdrsOf m (L1++L2) (I1++I2):=by
 refine⟨?_,λhn=>?_⟩
 ·rintro b ⟨u,hu,hb⟩;rcases A4.1 hu with hu|hu
  ·obtain⟨id,o,k1,k2⟩:=h1.1 b ⟨u,hu,hb⟩;exact⟨id,o,by simp[k1],k2⟩
  obtain⟨id,o,k1,k2⟩:=h2.1 b ⟨u,hu,hb⟩;exact⟨id,o,by simp[k1],k2⟩
 obtain⟨n1,n2,n3⟩:=aU hn;refine Kh.2 ⟨h1.2 n1,h2.2 n2,?_⟩;intro u hu v hv b hb hb';obtain⟨id,o,k1,k2,k3,k4⟩:=h1.1 b ⟨u,hu,hb⟩;obtain⟨id',o',j1,j2,j3,j4⟩:=h2.1 b ⟨v,hv,hb'⟩;have:=hi.inj id id' o o' b k2 k3 j2 j3 k4 j4;subst this;exact n3 id k1 j1
theorem HdrsOf.of_has{v:SV}{u:Value}(h:Ge m v u):HdrsOf m [u] (bJ v):=by refine⟨?_,λ_=>JI _ _⟩;rintro b ⟨u',hu',hb⟩;simp only[B4]at hu';subst hu';obtain⟨id,o,k1,k2,k3,k4⟩:=h b hb;exact⟨id,o,by rw[k1];simp,k2,k3,k4⟩
theorem HdrsOf.cons(hi:Inv C w0 M m){u:Value}{L:List Value}{I1 I2:List Nat}(h1:HdrsOf m [u] I1)(h2:HdrsOf m L I2):HdrsOf m (u::L) (I1++I2):=h1.append hi h2
theorem yW {d:Bool}(hi:Inv C w0 M m){e:Ty}{at':Atom}{u:Value}{y:List e.den}(hr:ai m u at')(hy:aF m.G (.slice e) at'=some y)(ho:eR (d && e.isSl) at'=true) :
  ∃ g,aP g=u/\kN m.w m.F d e g y/\HdrsOf m [g] (atomIds at'):=by
 cases hde:(d&&e.isSl)with
 |false=>
  rw[hde]at ho;have hk:(∃ d0,SV.av at'=.av (.nils d0))\/(∃ id,SV.av at'=.av (.own id))\/∃ id o n,SV.av at'=.av (.view id o n):=by cases at'<;>simp[eR]at ho ⊢
  have hnv:∀ τ x,at'≠.val τ x:=by intro τ x e;subst e;simp[eR]at ho
  have hsv:aR m.G (.slice e) (.av at')=some y:=by cases at'<;>simp[eR]at ho<;>exact hy
  obtain⟨g1,g2,g3⟩:=mQ hi hsv ((ao hnv).2 hr) hk;have g1:HdrW m.w m.F u e y:=g1;have hown:kN m.w m.F d e u y:=by
   cases e with
   |slice σ=>
    cases d with
    |true=>simp[Ty.isSl]at hde
    |false=>exact g1
   |_=>exact g1
  exact⟨u,bZ (bA g1),hown,HdrsOf.of_has g2⟩
 |true=>
  rw[hde]at ho;simp only[np]at hde;obtain⟨rfl,hsl⟩:=hde;cases e with
  |slice σ=>
   cases at' with
   |nils=>
    simp only[aF,aw]at hy;subst hy;obtain⟨ad,rfl,_⟩:=hr;have hnb:∀ b,¬HB (.slice ad 0 0) b:=λb hb=>by cases ad<;>simp[HB,HB1]at hb
    have hd:DeepW m.w m.F (.slice ad 0 0) [] σ [] none:=⟨rfl,⟨ad,0,rfl,by simp,by unfold maxLen;omega,λh=>absurd rfl h⟩,by intro i hi;simp at hi,(by intro i v hi;cases hi),JI _ _⟩;refine⟨.tuple [.slice ad 0 0].toArray,rfl,⟨_,[],rfl,hd⟩,?_,λ_=>JI _ _⟩;rintro b ⟨u',hu',hb⟩;simp only[B4]at hu';subst hu';obtain⟨v,hv,hb⟩:=(bY hd.one).1 hb;simp only[B4]at hv;subst hv;exact absurd hb (hnb b)
   |ownd id=>
    obtain⟨_,ob,hob,hv⟩:=hr;simp only[aF]at hy;rw[hob]at hy;cases ob with
    |deep ver τ l' hole=>
     cases hole with
     |some _=>simp at hy
     |none=>
      simp only at hy;obtain⟨e',hy⟩:=aD hy;simp only[Ty.slice.injEq]at e';subst e';subst hy
      obtain⟨vs,v1,v2⟩:=hv;obtain⟨u',hs,d1,d2⟩:=cr hi hob;rw[d1]at v1;simp only[Value.tuple.injEq]at v1;subst v1;simp only[List.getElem?_toArray,List.getElem?_cons_zero,aw]at v2;subst v2;refine⟨.tuple (u'::hs).toArray,by simp[aP],⟨_,hs,rfl,d2⟩,?_,λ_=>JI _ _⟩;rintro b ⟨u2,hu2,hb⟩;simp only[B4]at hu2;subst hu2;exact⟨id,_,by simp[atomIds],hob,rfl,by rw[d1];exact hb⟩
    |_=>simp at hy
   |_=>simp[eR]at ho
  |_=>simp[Ty.isSl]at hsl
theorem hO{own:Bool}{k:List Nat}:∀{o:Nat} {l r:List Atom},bR own k o (l++r)=bR own k o l++bR own k (o+l.length) r
 |_,[],_=>rfl
 |o,a::l,r=>by simp only[KD,bR,B6,hO (l:=l),Jm];rw[show o+1+l.length=o+(l.length+1) by omega]
theorem ml (hi:Inv C w0 M m){Fr:Nat->Prop}{τ : Ty}(hf : τ.flat=true){us:List Value}{at':Atom}{l:List Atom}{x : τ.den}(hr:Rel2 (ai m) us (at' :: l))(hy:aF m.G τ at'=some x) :
  ∃ u us',us=[u].map aP++us'/\Rd m.w Fr τ [u] x/\Rel2 (ai m) us' l:=by
 cases us with
 |nil=>exact hr.elim
 |cons u us=>have h:=(cv hi hy hr.1).flat hf m.w Fr;exact⟨u,us,by rw[br h];rfl,h,hr.2⟩
theorem od (hi:Inv C w0 M m){k:List Nat}{Fr:Nat->Prop}(hF:∀ b,m.F b->Fr b):∀{o:Nat} {τ : Ty} {us:List Value} {l rest rest':List Atom} {x : τ.den},Rel2 (ai m) us l->aA m.G τ l=some (x,rest)->gG k o τ l=(true,rest') ->
  (∀ b,Thru m (bR false k o l) b->Fr b) ->
  ∃ c us' lc,us=c.map aP++us'/\l=lc++rest/\rest'=rest/\lc.length=τ.size/\BoxRd m.w Fr k o τ c x/\Rel2 (ai m) us' rest/\HdrsOf m (bn k o τ c) (bR true k o lc)
 |o,.prod a b,us,l,rest,rest',x,hr,hc,ho,hT=>by
  simp only[aA]at hc;split at hc
  ·rename_i x1 r1 h1;split at hc
   ·rename_i x2 r2 h2;have hc:=B7 hc;simp only[B3]at hc;obtain⟨rfl,rfl⟩:=hc;simp only[gG,B3,np]at ho;obtain⟨⟨o1,o2⟩,o3⟩:=ho;obtain⟨c1,us1,lc1,a1,a2,a3,al,a4,a5,a6⟩:=od hi hF (k:=k) (o:=o) (rest':=(gG k o a l).2) hr h1 (by rw[<- o1]) hT;rw[a3]at o2 o3;subst a2;have hT2:∀ b',Thru m (bR false k (o+a.size) r1) b'->Fr b':=λb' hb=>hT b' (Thru.mono (λi hi=>by rw[hO,al];simp[hi]) hb);obtain⟨c2,us2,lc2,b1,b2,b3,bl,b4,b5,b6⟩:=od hi hF (k:=k) (o:=o+a.size) (rest':=(gG k (o+a.size) b r1).2) a5 h2 (by rw[<- o2]) hT2;subst a1;subst b1;subst b2;have hh:bn k o (.prod a b) (c1++c2)=bn k o a c1++bn k (o+a.size) b c2:=by show bn k o a ((c1++c2).take a.size)++bn k (o+a.size) b ((c1++c2).drop a.size)=_;rw[<- a4.len,KF,KT]
    refine⟨c1++c2,us2,lc1++lc2,by simp,by simp,by rw[<- o3,b3],by simp[al,bl,Ty.size],⟨c1,c2,rfl,a4,b4⟩,b5,?_⟩;rw[hh,hO,al];exact a6.append hi b6
   simp at hc
  simp at hc
 |o,.unit,us,l,rest,rest',x,hr,hc,ho,hT=>by simp only[aA,aw,B3]at hc;simp only[gG,B3,true_and]at ho;obtain⟨_,rfl⟩:=hc;subst ho;exact⟨[],us,[],rfl,rfl,rfl,rfl,rfl,hr,HdrsOf.nil _ _⟩
 |o,.slice e,us,l,rest,rest',x,hr,hc,ho,hT=>by
  cases l with
  |nil=>simp[aA]at hc
  |cons at' l=>
   cases us with
   |nil=>exact hr.elim
   |cons u us=>
    simp only[aA]at hc;split at hc
    ·rename_i y hy;have hc:=B7 hc;simp only[B3]at hc;obtain⟨rfl,rfl⟩:=hc;simp only[gG,B3]at ho;obtain⟨o1,rfl⟩:=ho;cases hk:A7 (dE k o) 0 with
     |true=>have h:=(cv hi hy hr.1).mono (w':=m.w) (F':=Fr) λb hb=>⟨hT b (Thru.mono (λi hi=>by simp[bR,hk,hi]) hb),rfl⟩;refine⟨[u],us,[at'],by rw[br h];rfl,rfl,rfl,rfl,by unfold BoxRd;rw[hk];exact h,hr.2,?_⟩;unfold bn;rw[hk];exact HdrsOf.nil _ _
     |false=>
      rw[hk]at o1;simp only[UB]at o1;obtain⟨g,g1,g2,g3⟩:=yW hi hr.1 hy o1;refine⟨[g],us,[at'],by rw[<- g1];rfl,rfl,rfl,rfl,?_,hr.2,?_⟩
      ·unfold BoxRd;rw[hk];exact⟨g,rfl,mf (λb hb=>⟨hF b hb,rfl⟩) (λ_ _=>rfl) g2⟩
      unfold bn;rw[hk];have e:bR true k o [at']=atomIds at':=by simp[bR,hk]
      rw[e];exact g3
    simp at hc
 |o,.int k',us,[],rest,rest',x,hr,hc,ho,hT=>by simp[aA]at hc
 |o,.int k',us,at'::l,rest,rest',x,hr,hc,ho,hT=>by
  simp only[aA]at hc;split at hc
  ·rename_i y hy;have hc:=B7 hc;simp only[B3]at hc;obtain⟨rfl,rfl⟩:=hc;simp only[gG,B3,true_and]at ho;obtain⟨u,us',h1,h2,h3⟩:=ml (Fr:=Fr) hi (τ:=.int k') rfl hr hy;exact⟨[u],us',[at'],h1,rfl,ho.symm,rfl,h2,h3,HdrsOf.nil _ _⟩
  simp at hc
 |o,.bool,us,[],rest,rest',x,hr,hc,ho,hT=>by simp[aA]at hc
 |o,.bool,us,at'::l,rest,rest',x,hr,hc,ho,hT=>by
  simp only[aA]at hc;split at hc
  ·rename_i y hy;have hc:=B7 hc;simp only[B3]at hc;obtain⟨rfl,rfl⟩:=hc;simp only[gG,B3,true_and]at ho;obtain⟨u,us',h1,h2,h3⟩:=ml (Fr:=Fr) hi (τ:=.bool) rfl hr hy;exact⟨[u],us',[at'],h1,rfl,ho.symm,rfl,h2,h3,HdrsOf.nil _ _⟩
  simp at hc
 |o,.str,us,[],rest,rest',x,hr,hc,ho,hT=>by simp[aA]at hc
 |o,.str,us,at'::l,rest,rest',x,hr,hc,ho,hT=>by
  simp only[aA]at hc;split at hc
  ·rename_i y hy;have hc:=B7 hc;simp only[B3]at hc;obtain⟨rfl,rfl⟩:=hc;simp only[gG,B3,true_and]at ho;obtain⟨u,us',h1,h2,h3⟩:=ml (Fr:=Fr) hi (τ:=.str) rfl hr hy;exact⟨[u],us',[at'],h1,rfl,ho.symm,rfl,h2,h3,HdrsOf.nil _ _⟩
  simp at hc
 |_,.arr _ _,_,_,_,_,_,_,_,ho,_=>by simp[gG]at ho
 |o,.ptr e,us,[],rest,rest',x,hr,hc,ho,hT=>by simp[aA]at hc
 |o,.ptr e,us,at'::l,rest,rest',x,hr,hc,ho,hT=>by
  cases us with
  |nil=>exact hr.elim
  |cons u us=>
   simp only[aA]at hc;split at hc
   ·rename_i y hy;have hc:=B7 hc;simp only[B3]at hc;obtain⟨rfl,rfl⟩:=hc;simp only[gG,B3,true_and]at ho;have hz:atomIds at'=[]:=by
     cases at'<;>first|rfl|(simp[aF]at hy;done)
    have h:Rd m.w Fr (.ptr e) [u] y:=(cv hi hy hr.1).mono (w':=m.w) (F':=Fr) λb hb=>by
     rw[hz]at hb;rcases hb with hb|⟨i,hi2,_⟩
     ·exact⟨hF b hb,rfl⟩
     cases hi2
    refine⟨[u],us,[at'],by rw[br h];rfl,rfl,ho.symm,rfl,h,hr.2,?_⟩;exact HdrsOf.nil _ _
   simp at hc
 |_,.clo _ _,_,_,_,_,_,_,_,ho,_=>by simp[gG]at ho
theorem cw{p:Value}{hs:List Value}:aP (jl p hs)=p:=by simp[jl,aP]
theorem pS (hi:Inv C w0 M m){k:List Nat}{T:Ty}{id:Nat}{l:List Atom}{u:Value}{x:T.den}{rest rest':List Atom}{Fr:Nat->Prop}(hF:∀ b,m.F b->Fr b)(hg:m.G.get id=some (.box l))(hr:ai m u (.ptr id 0))(hc:aA m.G T l=some (x,rest))(ho:gG k 0 T l=(true,rest'))(hor:rest=[]\/rest'=[])
  (hn:aH (cl true k m.G (.av (.ptr id 0)))=true) (hT:∀ b,Thru m (cl false k m.G (.av (.ptr id 0))) b->Fr b) :
  ∃ t,aP t=u/\zZ m.w Fr k T t x/\HdrsOf m [t] (cl true k m.G (.av (.ptr id 0)))/\m.ι id=u/\rest=[]:=by
 have e1:cl true k m.G (.av (.ptr id 0))=id::bR true k 0 l:=by simp[cl,hg]
 have e2:cl false k m.G (.av (.ptr id 0))=bR false k 0 l:=by simp[cl,hg]
 rw[e1]at hn ⊢;rw[e2]at hT;obtain⟨_,ob,hob,hv⟩:=hr;rw[hg]at hob;simp only[aw]at hob;subst hob;obtain⟨b,hι,rfl⟩:=hv;obtain⟨b',c,el,h1,h2,h3,h4⟩:=hi.objs id _ hg;rw[hι]at h1;simp only[Value.pointer.injEq,aw,Addr.mk.injEq,and_true]at h1;subst h1;obtain⟨cs,us',lc,a1,a2,a3,a4,a5,a6,a7⟩:=od hi hF h4 hc ho hT;have a8:rest=[]:=by
  rcases hor with h|h
  ·exact h
  rw[<- a3,h]
 subst a8;match us',a6 with
 |[],_=>
  rw[Jz]at a1 a2;subst a2;obtain⟨n1,n2⟩:=dM hn;have hp:∀ bl,HB1 (.pointer (some ⟨b,0,none⟩)) bl->HB (m.ι id) bl:=λbl hb=>by rw[hι];exact hb
  refine⟨jl (.pointer (some ⟨b,0,none⟩)) (bn k 0 T cs),cw,⟨b,c,el,cs,rfl,h2,a1,a5,?_⟩,⟨?_,λ_=>JI _ _⟩,hι,rfl⟩
  ·refine K4 ?_ (a7.2 n2);intro v hv bl hb hb';obtain⟨id',o',k1,k2,k3,k4⟩:=a7.1 bl ⟨v,hv,hb'⟩;have:=hi.inj id id' _ o' bl hg rfl k2 k3 (hp bl hb) k4;subst this;exact n1 k1
  rintro bl ⟨u',hu',hb⟩;simp only[B4]at hu';subst hu';rcases eB.1 hb with hb|⟨v,hv,hb⟩
  ·exact⟨id,_,by simp,hg,rfl,hp bl hb⟩
  obtain⟨id',o',k1,k2⟩:=a7.1 bl ⟨v,hv,hb⟩;exact⟨id',o',by simp[k1],k2⟩
theorem n9{w:World}{F:Nat->Prop}{τ:Ty}{cs:List Value}{x:τ.den}(h:Rd w F τ cs x):aP (toV τ cs)=toV τ cs:=by
 cases ha:τ.isAgg with
 |true=>simp[toV,ha,aP]
 |false=>obtain⟨v,rfl,_⟩:=h.single ha;have h1:=h.one v (by simp);rw[mm ha];exact bZ h1
theorem eC{G:Heap}{k:List Nat}{τ:Ty}{r:List (Mode×Ty)}{v:SV}{vs:List SV}:aV G ((.box k,τ)::r) (v::vs)=(cl false k G v++(aV G r vs).1,cl true k G v++(aV G r vs).2):=rfl
theorem kG (hi:Inv C w0 M m):∀{ins:List (Mode×Ty)} {vs:List SV} {us:List Value} {x:(ac (ins.map (·.2))).den} {y:(ac (aN ins)).den} {G G':Heap} {F:Nat->Prop},
  dG m.G ins vs=some x->Rel2 (RelSV m) us vs->am ins vs y G=some G'->cK m.G ins vs=true->aH (aV m.G ins vs).2=true->(∀ b,Thru m (aV m.G ins vs).1 b->F b) ->
  ∃ ts:List Value,us=ts.map aP/\ArgsRd m.w F ins ts x/\HdrsOf m (az ins ts) (aV m.G ins vs).2/\ts.length=ins.length
 |[],[],[],x,y,G,G',F,h,hr,ha,hb,hn,hF=>⟨[],rfl,trivial,HdrsOf.nil _ _,rfl⟩
 |[],_::_,_,_,_,_,_,_,h,_,_,_,_,_=>by simp[dG]at h
 |_::_,[],_,_,_,_,_,_,h,_,_,_,_,_=>by simp[dG]at h
 |_::_,_::_,[],_,_,_,_,_,_,h,_,_,_,_=>h.elim
 |[],[],_::_,_,_,_,_,_,_,h,_,_,_,_=>h.elim
 |(md,τ)::r,v::vs,u::us,x,y,G,G',F,h,hr,ha,hb,hn,hF=>by
  unfold dG at h;split at h
  ·rename_i x1 hx1;split at h
   ·rename_i x2 hx2;have h:=B7 h;subst h;dsimp only at hx1;obtain⟨hr1,hr2⟩:=hr;have hFm:∀ b,m.F b->F b:=λb hb=>hF b (.inl hb);cases md with
    |rd=>have ha':am r vs y G=some G':=ha;obtain⟨ts,q0,q1,q2,q4⟩:=kG hi (F:=F) hx2 hr2 ha' hb hn (λb hb=>hF b (Thru.mono (λi hi=>by rw[kO];simp[hi]) hb));obtain⟨cs,c1,c2⟩:=db hi hx1 hr1;exact⟨u::ts,by rw[JA,<- q0,c1,n9 c2],⟨⟨cs,c1,c2.mono λb hb=>⟨hF b (Thru.mono (λi hi=>by rw[kO];simp[hi]) hb),rfl⟩⟩,q1⟩,q2,by simp[q4]⟩
    |take=>
     obtain⟨hk,ha'⟩:=ff ha;rw[jk]at hn;obtain⟨n1,n2,_⟩:=aU hn;obtain⟨ts,q0,q1,q2,q4⟩:=kG hi (F:=F) hx2 hr2 ha' hb n2 (λb hb=>hF b hb);obtain⟨g1,g2,g3⟩:=mQ hi hx1 hr1 hk;have g1':=ArgRd.mono (F':=F) hFm g1;have hone:aP u=u:=by
      cases τ<;>first|exact g1'.elim|exact bZ (bA g1')
     refine⟨u::ts,by rw[JA,<- q0,hone],⟨g1',q1⟩,?_,by simp[q4]⟩;rw[jk];exact(HdrsOf.of_has g2).cons hi q2
    |upd=>
     cases τ with
     |slice e=>
      have hk:((∃ d0,v=.av (.nils d0))\/(∃ id,v=.av (.own id))\/∃ id o n,v=.av (.view id o n))/\∃ G1 y',am r vs y' G1=some G':=by
       rcases fM ha with⟨⟨_,rfl⟩,h1⟩|⟨id,rfl,h1⟩
       ·exact⟨.inl ⟨_,rfl⟩,_,_,h1⟩
       exact⟨.inr (.inl ⟨_,rfl⟩),_,_,h1⟩
      obtain⟨hk,G1,y',ha'⟩:=hk;rw[kj]at hn;obtain⟨n1,n2,_⟩:=aU hn;obtain⟨ts,q0,q1,q2,q4⟩:=kG hi (F:=F) hx2 hr2 ha' hb n2 (λb hb=>hF b hb);obtain⟨g1,g2,g3⟩:=mQ hi hx1 hr1 hk;have g1':HdrW m.w F u e x1:=ArgRd.mono (F':=F) hFm g1;refine⟨u::ts,by rw[JA,<- q0,bZ (bA g1')],⟨g1',q1⟩,?_,by simp[q4]⟩;rw[kj];exact(HdrsOf.of_has g2).cons hi q2
     |_=>simp[am]at ha
    |box k=>
     cases τ with
     |ptr T=>
      simp only[cK,np]at hb;obtain⟨hb1,hb2⟩:=hb;split at hb1
      ·rename_i id;split at hb1
       ·rename_i l hl;simp only[np,Mj]at hb1;have ha':∃ y' G1,am r vs y' G1=some G':=⟨_,_,ha⟩;obtain⟨y',G1,ha'⟩:=ha';rw[eC]at hn;obtain⟨n1,n2,_⟩:=aU hn;obtain⟨ts,q0,q1,q2,q4⟩:=kG hi (F:=F) hx2 hr2 ha' hb2 n2 (λb hb=>hF b (Thru.mono (λi hi=>by rw[eC];simp[hi]) hb));simp only[aR,dQ,hl]at hx1;cases hc1:JK (0+T.size) l.length with
        |false=>rw[hc1]at hx1;simp at hx1
        |true=>
         rw[hc1]at hx1;simp only[UA,List.drop_zero]at hx1;split at hx1
         ·rename_i x1' rest hc;have hx1:=B7 hx1;subst hx1;obtain⟨t,t1,t2,t3,_⟩:=pS hi (Fr:=F) hFm hl ((ao (by intros;simp)).1 hr1) hc (by rw[<- hb1.1,<- hb1.2]) (.inr rfl) n1 (λb hb=>hF b (Thru.mono (λi hi=>by rw[eC];simp[hi]) hb));refine⟨t::ts,by rw[JA,<- q0,t1],⟨t2,q1⟩,?_,by simp[q4]⟩;rw[eC];exact t3.cons hi q2
         simp at hx1
       simp at hb1
      simp at hb1
     |_=>simp[am]at ha
   simp at h
  simp at h
def oK:List (Mode×Ty)->Bool
 |[]=>true
 |(.box _,_)::_=>false
 |_::r=>oK r
theorem jr:∀{ins:List (Mode×Ty)} {us us':List Value},oK ins=true->ku ins us us'->us'=us
 |[],[],[],_,_=>rfl
 |[],[],_::_,_,h=>h.elim
 |[],_::_,_,_,h=>by cases h
 |(md,_)::_,[],us',_,h=>by cases md<;>cases us'<;>exact h.elim
 |(md,_)::_,_::_,[],_,h=>by cases md<;>exact h.elim
 |(md,τ)::r,u::us,u'::us',hn,h=>by
  cases md with
  |box k=>simp[oK]at hn
  |rd=>obtain⟨rfl,h⟩:=h;rw[jr (ins:=r) hn h]
  |upd=>obtain⟨rfl,h⟩:=h;rw[jr (ins:=r) hn h]
  |take=>obtain⟨rfl,h⟩:=h;rw[jr (ins:=r) hn h]
theorem rP:∀{ins:List (Mode×Ty)} {us:List Value},us.length=ins.length->ku ins us us
 |[],[],_=>trivial
 |[],_::_,h=>by simp at h
 |_::_,[],h=>by simp at h
 |(md,τ)::r,u::us,h=>by have:=rP (ins:=r) (us:=us) (by simpa using h);cases md<;>exact⟨rfl,this⟩
theorem iu{w:World}{F:Nat->Prop}:∀{ins:List (Mode×Ty)} {us:List Value} {x:(ac (ins.map (·.2))).den},oK ins=true->ArgsRd w F ins us x->us.map aP=us/\us.length=ins.length
 |[],[],_,_,_=>⟨rfl,rfl⟩
 |[],_::_,_,_,h=>h.elim
 |_::_,[],_,_,h=>h.elim
 |(md,τ)::r,u::us,x,hn,h=>by
  have key:∀{md:Mode},(∀ k,md≠.box k)->ArgRd w F md τ u x.1->aP u=u:=by
   intro md hm h;cases md with
   |rd=>obtain⟨cs,rfl,h2⟩:=h;exact n9 h2
   |upd=>cases τ<;>first|exact h.elim|exact bZ (bA h)
   |take=>cases τ<;>first|exact h.elim|exact bZ (bA h)
   |box k=>exact absurd rfl (hm k)
  cases md with
  |box k=>simp[oK]at hn
  |rd=>obtain⟨q1,q2⟩:=iu (ins:=r) hn h.2;exact⟨by rw[JA,key (by intro k e;cases e) h.1,q1],by simp[q2]⟩
  |upd=>obtain⟨q1,q2⟩:=iu (ins:=r) hn h.2;exact⟨by rw[JA,key (by intro k e;cases e) h.1,q1],by simp[q2]⟩
  |take=>obtain⟨q1,q2⟩:=iu (ins:=r) hn h.2;exact⟨by rw[JA,key (by intro k e;cases e) h.1,q1],by simp[q2]⟩
end
theorem Goes.mono{P:Program}{f:FuncId}{vs:Array Value}{w:World}{R R':Value->World->Prop}(h:Goes P f vs w R)(hr:∀ v w',R v w'->R' v w'):Goes P f vs w R':=by
 rcases h with⟨h1,h2⟩|⟨v,w',h1,h2⟩
 ·exact .inl ⟨h1,Calls.mono h2 λe w' ⟨v,he,hR⟩=>⟨v,he,hr v w' hR⟩⟩
 exact .inr ⟨v,w',h1,hr v w' h2⟩
theorem Con.Holds.plain {P:Program}{glob:List (Nat×(Σ t:Ty,t.den))}{f:FuncId}{c:Con}(hn:oK c.ins=true)
  (h:∀(w:World) (F:Nat->Prop) (us:List Value) (x:(ac (c.ins.map (·.2))).den) (r:(ac (c.outs.map (·.2)++aN c.ins)).den),Pre glob w F c.ins us x->c.fn x=some r ->
   Goes P f us.toArray w λv w'=>∃ F2 css,AI w F c.ins us c.outs r v w' F2 css c.deep):Con.Holds P glob f c:=by
 intro w F us x r hp hf;obtain⟨q1,q2⟩:=iu hn hp.args;rw[q1];exact(h w F us x r hp hf).mono λv w' ⟨F2,css,hP⟩=>⟨us,F2,css,rP q2,hP⟩
theorem Con.Holds.get {P:Program}{glob:List (Nat×(Σ t:Ty,t.den))}{f:FuncId}{c:Con}(hc:Con.Holds P glob f c)(hn:oK c.ins=true){w:World}{F:Nat->Prop}{us:List Value}{x:(ac (c.ins.map (·.2))).den}{r:(ac (c.outs.map (·.2)++aN c.ins)).den}
  (hp:Pre glob w F c.ins us x) (hf:c.fn x=some r):Goes P f us.toArray w λv w'=>∃ F2 css,AI w F c.ins us c.outs r v w' F2 css c.deep:=by
 have h:=hc w F us x r hp hf;obtain⟨q1,q2⟩:=iu hn hp.args;rw[q1]at h;refine h.mono λv w' ⟨us',F2,css,hs,hP⟩=>?_;have:=jr hn hs;subst this;exact⟨F2,css,hP⟩
end Go.Vm

/-
 The machine's operations against the model's: what a call leaves behind.
-/
namespace Go.Vm
section
variable {P:Program}{C:Ctx}{w0:World}{M:Own}{o:Oper}{a:Act}{m:Mem}{s s':St}
structure Aft (m:Mem)(w':World)(F1:Nat->Prop)(H:List Value)(G:Heap)(S:List Nat):Prop where
 old:∀ id o,G.get id=some o->isObj o=true->(id∉S/\m.G.get id=some o)\/∃ o0,m.G.get id=some o0/\isObj o0=true/\Alike o0 o/\(∀ G',cQ ⟨w',F1,m.ι,G'⟩ id o)/\∀ b,HB (m.ι id) b->cL H b
 get:∀ id o,m.G.get id=some o->∃ o',G.get id=some o'/\(o'=.dead\/Alike o o')
theorem Aft.kill{w':World}{F1:Nat->Prop}{H:List Value}{S:List Nat}(i:Nat){G:Heap}(h:Aft m w' F1 H G S):Aft m w' F1 H ((i,.dead)::G) (S++[i]):=by
 refine⟨λid o ho hob=>?_,λid o ho=>?_⟩
 ·rw[Heap.get_cons]at ho;split at ho
  ·simp only[aw]at ho;subst ho;simp[isObj]at hob
  rename_i hne;rcases h.old id o ho hob with⟨h1,h2⟩|h1
  ·exact .inl ⟨by simp[h1,Ne.symm hne],h2⟩
  exact .inr h1
 by_cases e:i=id
 ·exact⟨.dead,by rw[Heap.get_cons,if_pos e],.inl rfl⟩
 obtain⟨o',h1,h2⟩:=h.get id o ho;exact⟨o',by rw[Heap.get_cons,if_neg e];exact h1,h2⟩
theorem Aft.kills{w':World}{F1:Nat->Prop}{H:List Value}:∀(ids:List Nat) {S:List Nat} {G:Heap},Aft m w' F1 H G S->Aft m w' F1 H (aq ids G) (S++ids)
 |[],S,G,h=>by rw[Jz];exact h
 |i::r,S,G,h=>by have:=Aft.kills r (h.kill i);rw[Jm]at this;exact this
theorem Aft.put {w':World}{F1:Nat->Prop}{H:List Value}{S:List Nat}{i:Nat}{G:Heap}{o0 o1:Obj}(hg:m.G.get i=some o0)(hob:isObj o0=true)(ha:Alike o0 o1)(hh:∀ G',cQ ⟨w',F1,m.ι,G'⟩ i o1)(hm:∀ b,HB (m.ι i) b->cL H b)
  (h:Aft m w' F1 H G S):Aft m w' F1 H ((i,o1)::G) (S++[i]):=by
 refine⟨λid o ho hob'=>?_,λid o ho=>?_⟩
 ·rw[Heap.get_cons]at ho;split at ho
  ·rename_i e0;subst e0;simp only[aw]at ho;subst ho;exact .inr ⟨o0,hg,hob,ha,hh,hm⟩
  rename_i hne;rcases h.old id o ho hob' with⟨h1,h2⟩|h1
  ·exact .inl ⟨by simp[h1,Ne.symm hne],h2⟩
  exact .inr h1
 by_cases e0:i=id
 ·subst e0;rw[hg]at ho;simp only[aw]at ho;subst ho;exact⟨o1,by rw[Heap.get_cons,if_pos rfl],.inr ha⟩
 obtain⟨o',h1,h2⟩:=h.get id o ho;exact⟨o',by rw[Heap.get_cons,if_neg e0];exact h1,h2⟩
def bB:List (Mode×Ty)->List SV->List Nat
 |(.rd,_)::r,_::vs=>bB r vs
 |(.box _,_)::r,.av (.ptr i _)::vs=>i::bB r vs
 |(_,_)::r,v::vs=>bJ v++bB r vs
 |_,_=>[]
def cT:List (Mode×Ty)->List Value->List Value
 |(.upd,_)::r,u::us=>u::cT r us
 |(.box _,_)::r,u::us=>aP u::cT r us
 |(_,_)::r,_::us=>cT r us
 |_,_=>[]
theorem kJ{m:Mem}:∀(us:List Value),Rel2 (ai m) us (A5 us.length .u)
 |[]=>trivial
 |_::us=>⟨trivial,kJ us⟩
theorem eG{G:Heap}:∀{ins:List (Mode×Ty)} {vs:List SV},cK G ins vs=true->∀ i∈(aV G ins vs).2,i∈bB ins vs\/i∈bz G ins vs
 |[],vs,_,i,h=>by cases vs<;>simp[aV]at h
 |(md,τ)::r,[],_,i,h=>by cases md<;>simp[aV]at h
 |(.rd,τ)::r,v::vs,hb,i,h=>eG (ins:=r) (vs:=vs) hb i h
 |(.upd,τ)::r,v::vs,hb,i,h=>by
  have h:i∈bJ v++(aV G r vs).2:=h;have e:bB ((.upd,τ)::r) (v::vs)=bJ v++bB r vs:=rfl;rw[e];rcases A4.1 h with h|h
  ·exact .inl (by simp[h])
  rcases eG (ins:=r) (vs:=vs) hb i h with h|h
  ·exact .inl (by simp[h])
  exact .inr h
 |(.take,τ)::r,v::vs,hb,i,h=>by
  have h:i∈bJ v++(aV G r vs).2:=h;have e:bB ((.take,τ)::r) (v::vs)=bJ v++bB r vs:=rfl;rw[e];rcases A4.1 h with h|h
  ·exact .inl (by simp[h])
  rcases eG (ins:=r) (vs:=vs) hb i h with h|h
  ·exact .inl (by simp[h])
  exact .inr h
 |(.box k,τ)::r,v::vs,hb,i,h=>by
  cases τ with
  |ptr T=>
   simp only[cK,np]at hb;obtain⟨hb1,hb2⟩:=hb
   replace h:i∈cl true k G v++(aV G r vs).2:=h
   split at hb1
   ·rename_i id;split at hb1
    ·rename_i l hl;have e:bz G ((.box k,.ptr T)::r) (.av (.ptr id 0)::vs)=bR true k 0 l++bz G r vs:=by simp[bz,cl,hl]
     have e1:cl true k G (.av (.ptr id 0))=id::bR true k 0 l:=by simp[cl,hl]
     have e2:bB ((.box k,.ptr T)::r) (.av (.ptr id 0)::vs)=id::bB r vs:=rfl;rw[e1]at h;rw[e,e2];rcases A4.1 h with h|h
     ·rcases A8.1 h with rfl|h
      ·exact .inl (by simp)
      exact .inr (by simp[h])
     rcases eG (ins:=r) (vs:=vs) hb2 i h with h|h
     ·exact .inl (by simp[h])
     exact .inr (by simp[h])
    simp at hb1
   simp at hb1
  |_=>simp[cK]at hb
theorem fv (hi:Inv C w0 M m){w':World}{F1:Nat->Prop}{H:List Value}:∀{ins:List (Mode×Ty)} {vs:List SV} {us ts us':List Value} {x:(ac (ins.map (·.2))).den} {y:(ac (aN ins)).den} {G G':Heap} {S:List Nat},
  dG m.G ins vs=some x->Rel2 (RelSV m) us vs->us=ts.map aP->ku ins ts us'->MutsRd w' F1 ins us' y->(∀ u∈cT ins us',u∈H)->cK m.G ins vs=true->am ins vs y G=some G'->Aft m w' F1 H G S->Aft m w' F1 H G' (S++bB ins vs)
 |[],[],[],ts,us',x,y,G,G',S,h,hr,ht,hs,hm,hH,hb,ha,hA=>by simp only[am,aw]at ha;subst ha;simpa[bB]using hA
 |[],_::_,_,_,_,_,_,_,_,_,h,_,_,_,_,_,_,_,_=>by simp[dG]at h
 |_::_,[],_,_,_,_,_,_,_,_,h,_,_,_,_,_,_,_,_=>by simp[dG]at h
 |_::_,_::_,[],_,_,_,_,_,_,_,_,h,_,_,_,_,_,_,_=>h.elim
 |[],[],_::_,_,_,_,_,_,_,_,_,h,_,_,_,_,_,_,_=>h.elim
 |(md,τ)::r,v::vs,u::us,[],_,_,_,_,_,_,_,_,h,_,_,_,_,_,_=>by simp at h
 |(md,τ)::r,v::vs,u::us,_::_,[],_,_,_,_,_,_,_,_,h,_,_,_,_,_=>by cases md<;>exact h.elim
 |(md,τ)::r,v::vs,u::us,t::ts,u'::us',x,y,G,G',S,h,hr,ht,hs,hm,hH,hb,ha,hA=>by
  unfold dG at h;split at h
  ·rename_i x1 hx1;split at h
   ·rename_i x2 hx2;dsimp only at hx1;obtain⟨hr1,hr2⟩:=hr;simp only[JA,KJ]at ht;obtain⟨ht1,ht2⟩:=ht;cases md with
    |rd=>have ha':am r vs y G=some G':=ha;have hm':MutsRd w' F1 r us' y:=hm;exact fv (ins:=r) hi hx2 hr2 ht2 hs.2 hm' hH hb ha' hA
    |take=>obtain⟨hk,ha'⟩:=ff ha;have hm':MutsRd w' F1 r us' y:=hm;have:=fv (ins:=r) hi hx2 hr2 ht2 hs.2 hm' hH hb ha' (hA.kills (bJ v));rw[Jm]at this;exact this
    |upd=>
     cases τ with
     |slice e=>
      obtain⟨hm1,hm2⟩:=hm;have hH':∀ u∈cT r us',u∈H:=λu' hu'=>hH u' (by simp[cT,hu']);rcases fM ha with⟨⟨_,rfl⟩,ha'⟩|⟨id,rfl,ha'⟩
      ·have:=fv (ins:=r) hi hx2 hr2 ht2 hs.2 hm2 hH' hb ha' hA;exact this
      simp only[aR,Ty.isAgg,UB,aF]at hx1;cases hg:m.G.get id with
      |none=>rw[hg]at hx1;simp at hx1
      |some ob=>
       cases ob with
       |box _=>rw[hg]at hx1;simp at hx1
       |dead=>rw[hg]at hx1;simp at hx1
       |deep _ _ _ _=>rw[hg]at hx1;simp at hx1
       |map _ _ _=>rw[hg]at hx1;simp at hx1
       |arr σ l=>
        rw[hg]at hx1;obtain⟨he,hx⟩:=aD hx1;cases he;subst hx;obtain⟨_,ob,hob,hv⟩:=hr1;rw[hg]at hob;simp only[aw]at hob;subst hob;have hv:=hv rfl;subst hv;obtain⟨ad,cap,r1,r2,r3,r4⟩:=hi.objs id _ hg;have hu':u'=m.ι id:=by
         rw[hs.1,ht1];have h1:(aP t).oneCell'=true:=by rw[<- ht1,r1];rfl
         have h2:t.oneCell'=true:=by rw[<- hs.1];exact bA hm1
         rw[bZ h2]
        rw[hu']at hm1;have hlen:l.length=y.1.length:=by obtain⟨ad',cap',k1,_⟩:=hm1;rw[r1]at k1;simp only[Value.slice.injEq]at k1;exact k1.2.1
        have:=fv (ins:=r) hi hx2 hr2 ht2 hs.2 hm2 hH' hb ha' (hA.put (o1:=.arr e y.1) hg rfl ⟨rfl,hlen⟩ (λ_=>hm1) (λb hb=>⟨u',hH _ (by simp[cT]),by rw[hu'];exact hb⟩));rw[Jm]at this;exact this
     |_=>simp[am]at ha
    |box k=>
     cases τ with
     |ptr T=>
      obtain⟨hm1,hm2⟩:=hm;have hH':∀ u∈cT r us',u∈H:=λu' hu'=>hH u' (by simp[cT,hu']);simp only[cK,np]at hb;obtain⟨hb1,hb2⟩:=hb;split at hb1
      ·rename_i id;split at hb1
       ·rename_i l hl;have ha':am r vs y.2 ((id,.box (A5 T.size .u))::G)=some G':=ha;obtain⟨_,ob,hob,hv⟩:=(ao (a:=.ptr id 0) (by intros;simp)).1 hr1;rw[hl]at hob;simp only[aw]at hob;subst hob;obtain⟨b,hι,hu⟩:=hv;obtain⟨b',c,el,cs,k1,k2,k3,k4,k5⟩:=hm1;have hp:aP u'=.pointer (some ⟨b,0,none⟩):=by rw[hs.1,<- ht1,hu]
        rw[k1,cw]at hp;simp only[Value.pointer.injEq,aw,Addr.mk.injEq,and_true]at hp;subst hp;have hlen:c.toList.length=T.size:=by rw[k3,List.length_map,k4.len]
        have hrel:∀ G',cQ ⟨w',F1,m.ι,G'⟩ id (.box (A5 T.size .u)):=λG'=>⟨b',c,el,hι,k2,by rw[k3];exact k4.one,by rw[<- hlen];exact kJ _⟩;have:=fv (ins:=r) hi hx2 hr2 ht2 hs.2 hm2 hH' hb2 ha' (hA.put (o1:=.box (A5 T.size .u)) hl rfl trivial hrel (λbl hbl=>⟨aP u',hH _ (by simp[cT]),by rw[k1,cw];rw[hι]at hbl;exact hbl⟩));rw[Jm]at this;exact this
       simp at hb1
      simp at hb1
     |_=>simp[am]at ha
   simp at h
  simp at h
theorem F9 (hi:Inv C w0 M m){i:Nat}(hn:m.G.get i=none){u:Value}{e:Ty}{l:List e.den}(hu:HdrW m.w m.F u e l)
  (hb:∀ b,HB u b->(w0.heap.size<=b\/M b)/\¬m.F b/\b<m.w.heap.size/\∀ id o,m.G.get id=some o->isObj o=true->¬HB (m.ι id) b) :
  ∃ m',m'.w=m.w/\m'.F=m.F/\m'.G=(i,.arr e l)::m.G/\m'.ι=(λk=>if k=i then u else m.ι k)/\Inv C w0 M m'/\Evo m m'/\ai m' u (.own i):=by
 have he:Evo m ⟨m.w,m.F,λk=>if k=i then u else m.ι k,(i,.arr e l)::m.G⟩:=by
  refine⟨λb hF=>⟨hF,rfl⟩,λid p hp=>?_⟩;have hne:i≠id:=λe=>by subst e;rw[hn]at hp;cases hp
  exact⟨p,by rw[Heap.get_cons,if_neg hne];exact hp,.inr (.inl ⟨by simp[Ne.symm hne],Alike.refl p⟩)⟩
 refine⟨⟨m.w,m.F,λk=>if k=i then u else m.ι k,(i,.arr e l)::m.G⟩,rfl,rfl,rfl,rfl,⟨hi.kept,?_,?_,?_,hi.fro,λg τ x hg=>hi.glob g τ x hg,hi.bnd,bI he hi.pin⟩,he,?_⟩
 ·intro id p hp;rw[Heap.get_cons]at hp;split at hp
  ·rename_i e0;subst e0;simp only[aw]at hp;subst hp;obtain⟨ad,cap,h1,h2,h3,h4⟩:=hu;exact⟨ad,cap,by simp[h1],h2,h3,h4⟩
  rename_i hne;exact bL he (by simp[Ne.symm hne]) (λ_ _=>rfl) (hi.objs id p hp)
 ·intro id p b hp hop hbl;rw[Heap.get_cons]at hp;split at hp
  ·rename_i e0;subst e0;obtain⟨h1,h2,h3,_⟩:=hb b (by simpa using hbl);exact⟨h1,h2,h3⟩
  rename_i hne;exact hi.own id p b hp hop (by simpa[Ne.symm hne]using hbl)
 ·intro j k p q b hp hop hq hoq hj hk;rw[Heap.get_cons]at hp hq;split at hp<;>split at hq
  ·omega
  ·rename_i e0 hne;subst e0
   exact absurd (by simpa[Ne.symm hne]using hk) ((hb b (by simpa using hj)).2.2.2 k q hq hoq)
  ·rename_i hne e0;subst e0
   exact absurd (by simpa[Ne.symm hne]using hj) ((hb b (by simpa using hk)).2.2.2 j p hp hop)
  rename_i n1 n2;exact hi.inj j k p q b hp hop hq hoq (by simpa[Ne.symm n1]using hj) (by simpa[Ne.symm n2]using hk)
 obtain⟨ad,cap,h1,_⟩:=hu;exact⟨by rw[h1];rfl,.arr e l,by rw[Heap.get_cons,if_pos rfl],λ_=>by simp⟩
theorem OwnRd.len{w:World}{F:Nat->Prop}{d:Bool}:∀{τ:Ty} {cs:List Value} {x:τ.den},OwnRd w F d τ cs x->cs.length=τ.size
 |.prod a b,_,_,h=>by obtain⟨c1,c2,rfl,h1,h2⟩:=h;simp[Ty.size,h1.len,h2.len]
 |.unit,_,_,h=>by unfold OwnRd at h;subst h;rfl
 |.slice _,_,_,h=>by obtain⟨u,rfl,_⟩:=h;rfl
 |.int _,_,_,h=>Rd.len h
 |.bool,_,_,h=>Rd.len h
 |.str,_,_,h=>Rd.len h
 |.arr _ _,_,_,h=>h.elim
 |.ptr _,_,_,h=>by obtain⟨u,rfl,_⟩:=h;rfl
 |.clo g e,_,_,h=>by
  cases e with
  |unit=>exact Rd.len (τ:=.clo g .unit) h
  |_=>exact h.elim
theorem OwnRd.one{w:World}{F:Nat->Prop}{d:Bool}:∀{τ:Ty} {cs:List Value} {x:τ.den},OwnRd w F d τ cs x->∀ u∈cs.map aP,u.oneCell'=true
 |.prod a b,_,_,h=>by
  obtain⟨c1,c2,rfl,h1,h2⟩:=h;intro u hu;rw[KY]at hu;rcases A4.1 hu with hu|hu
  ·exact h1.one u hu
  exact h2.one u hu
 |.unit,_,_,h=>by unfold OwnRd at h;subst h;simp
 |.slice _,_,_,h=>by obtain⟨u,rfl,h⟩:=h;intro u' hu;simp only[JA,LO,B4]at hu;subst hu;exact rz h
 |.int k,cs,_,h=>by rw[br (τ:=.int k) h];exact Rd.one h
 |.bool,cs,_,h=>by rw[br (τ:=.bool) h];exact Rd.one h
 |.str,cs,_,h=>by rw[br (τ:=.str) h];exact Rd.one h
 |.arr _ _,_,_,h=>h.elim
 |.ptr _,_,_,h=>by obtain⟨u,rfl,b,c,el,cs,rfl,_⟩:=h;intro u' hu;simp only[JA,LO,B4]at hu;subst hu;rw[cw];rfl
 |.clo g e,_,_,h=>by
  cases e with
  |unit=>rw[br (τ:=.clo g .unit) h];exact Rd.one (τ:=.clo g .unit) h
  |_=>exact h.elim
theorem OwnRd.mono{w w':World}{F F':Nat->Prop}{d:Bool}(hF:∀ b,F b->F' b/\w'.heap[b]?=w.heap[b]?):∀{τ:Ty} {cs:List Value} {x:τ.den},(∀ u∈aO τ cs,∀ b,HB u b->w'.heap[b]?=w.heap[b]?)->OwnRd w F d τ cs x->OwnRd w' F' d τ cs x
 |.prod a b,_,_,hu,h=>by obtain⟨c1,c2,rfl,h1,h2⟩:=h;simp only[aO,<- h1.len,KF,KT]at hu;exact⟨c1,c2,rfl,h1.mono hF λu hu'=>hu u (by simp[hu']),h2.mono hF λu hu'=>hu u (by simp[hu'])⟩
 |.unit,_,_,_,h=>h
 |.slice _,_,_,hu,h=>by obtain⟨u,rfl,h⟩:=h;exact⟨u,rfl,mf hF (hu u (by simp[aO])) h⟩
 |.int _,_,_,_,h=>Rd.mono hF h
 |.bool,_,_,_,h=>Rd.mono hF h
 |.str,_,_,_,h=>Rd.mono hF h
 |.arr _ _,_,_,_,h=>h.elim
 |.ptr _,_,_,hu,h=>by obtain⟨u,rfl,b,c,el,cs,rfl,h2,h3,h4,h5⟩:=h;have hu:=hu (jl (.pointer (some ⟨b,0,none⟩)) (bn (dm d _) 0 _ cs)) (JH ..);exact⟨_,rfl,b,c,el,cs,rfl,by rw[hu b (eB.2 (.inl rfl))];exact h2,h3,h4.mono hF (λv hv bl hb=>hu bl (eB.2 (.inr ⟨v,hv,hb⟩))),h5⟩
 |.clo g e,_,_,_,h=>by
  cases e with
  |unit=>exact Rd.mono (τ:=.clo g .unit) hF h
  |_=>exact h.elim
theorem jb {u u':Value}{m':Mem}{i:Nat}{o':Obj}(h1:m'.w=m.w)(h2:m'.F=m.F)(h3:m'.G=(i,o') :: m.G)(h4:m'.ι=(fun k=>if k=i then u else m.ι k))(hf:cM w0 M m u')
  (ha:∀ b,HB u' b->¬HB u b):cM w0 M m' u':=by
 intro b hb;obtain⟨k1,k2,k3,k4⟩:=hf b hb;refine⟨k1,by rw[h2];exact k2,by rw[h1];exact k3,λid o ho hob=>?_⟩;rw[h3,Heap.get_cons]at ho;rw[h4];dsimp only;split at ho
 ·rename_i e0;rw[if_pos e0.symm];exact ha b hb
 rename_i hne;rw[if_neg (Ne.symm hne)];exact k4 id o ho hob
theorem jw {k:List Nat}:∀{o:Nat} {τ : Ty} {x : τ.den} {site:Nat} {c:List Atom} {cs:List Value} {m:Mem} {G':Heap},Inv C w0 M m->eF k o τ x site m.G=some (c,G')->BoxRd m.w m.F k o τ cs x ->
  cm (bn k o τ cs)->(∀ u∈bn k o τ cs,cM w0 M m u) ->
  ∃ m',m'.w=m.w/\m'.F=m.F/\m'.G=G'/\Inv C w0 M m'/\Evo m m'/\Rel2 (ai m') (cs.map aP) c/\(∀ u',cM w0 M m u'->(∀ b,HB u' b->¬cL (bn k o τ cs) b)->cM w0 M m' u') /\
   ∀ id ob,m.G.get id=some ob->m'.G.get id=some ob/\m'.ι id=m.ι id
 |o,.prod a b,x,site,c,cs,m,G',hi,h,hr,hp,hf=>by
  obtain⟨c1,c2,rfl,h1,h2⟩:=hr;have hh:bn k o (.prod a b) (c1++c2)=bn k o a c1++bn k (o+a.size) b c2:=by show bn k o a ((c1++c2).take a.size)++bn k (o+a.size) b ((c1++c2).drop a.size)=_;rw[<- h1.len,KF,KT]
  rw[hh]at hp hf ⊢;obtain⟨hp1,hp2,hp3⟩:=Kh.1 hp;simp only[eF]at h;split at h
  ·rename_i p hp0;split at h
   ·rename_i q hq0;simp only[aw,B3]at h;obtain⟨rfl,rfl⟩:=h;obtain⟨m1,a1,a2,a3,a4,a5,a6,a7,a8⟩:=jw (k:=k) (G':=p.2) hi hp0 h1 hp1 (λu hu=>hf u (by simp[hu]));have free2:∀ u∈bn k (o+a.size) b c2,cM w0 M m1 u:=λu hu=>a7 u (hf u (by simp[hu])) (by
     rintro bl hbl ⟨u',hu',hbl'⟩;exact hp3 u' hu' u hu bl hbl' hbl)
    obtain⟨m2,b1,b2,b3,b4,b5,b6,b7,b8⟩:=jw (k:=k) (G':=q.2) a4 (by rw[a3];exact hq0) (by rw[a1,a2];exact h2) hp2 free2;refine⟨m2,b1.trans a1,b2.trans a2,b3,b4,a5.trans b5,by rw[KY];exact(cI b5 a6).append b6,λu' hu' hn=>b7 u' (a7 u' hu' ?_) ?_,λid ob ho=>?_⟩
    ·rintro bl hbl ⟨u,hu,hbl'⟩;exact hn bl hbl ⟨u,by simp[hu],hbl'⟩
    ·rintro bl hbl ⟨u,hu,hbl'⟩;exact hn bl hbl ⟨u,by simp[hu],hbl'⟩
    obtain⟨k1,k2⟩:=a8 id ob ho;obtain⟨k3,k4⟩:=b8 id ob k1;exact⟨k3,k4.trans k2⟩
   simp at h
  simp at h
 |o,.unit,x,site,c,cs,m,G',hi,h,hr,hp,hf=>by simp only[eF,aw,B3]at h;obtain⟨rfl,rfl⟩:=h;unfold BoxRd at hr;subst hr;exact⟨m,rfl,rfl,rfl,hi,Evo.refl m,trivial,λ_ h _=>h,λ_ _ h=>⟨h,rfl⟩⟩
 |o,.slice e,x,site,c,cs,m,G',hi,h,hr,hp,hf=>by
  unfold BoxRd at hr;unfold bn at hp hf ⊢;unfold eF at h;cases hk:A7 (dE k o) 0 with
  |true=>rw[hk]at hr h hp hf;simp only[UA,aw,B3]at h;obtain⟨rfl,rfl⟩:=h;have hr:Rd m.w m.F (.slice e) cs x:=hr;exact⟨m,rfl,rfl,rfl,hi,Evo.refl m,by rw[br hr];exact bm (τ:=.slice e) hr,λ_ h _=>h,λ_ _ h=>⟨h,rfl⟩⟩
  |false=>
   rw[hk]at hr h hp hf;simp only[UB]at h hr hp hf;cases hh:m.G.has (ar 64 m.G (100000*(o+1)+site))with
   |true=>rw[hh]at h;simp at h
   |false=>
    rw[hh]at h;simp only[UB,aw,B3]at h;obtain⟨rfl,rfl⟩:=h;obtain⟨u,rfl,hu⟩:=hr;have hfu:=hf u (by simp);have hnone:=fA hh;have keep {m':Mem} {ob:Obj} {v:Value} (a3:m'.G=(ar 64 m.G (100000*(o+1)+site),ob)::m.G) (a4:m'.ι=(λk'=>if k'=ar 64 m.G (100000*(o+1)+site)then v else m.ι k')):∀ id ob,m.G.get id=some ob->m'.G.get id=some ob/\m'.ι id=m.ι id:=by
     intro id ob' ho;have hne:ar 64 m.G (100000*(o+1)+site)≠id:=λe=>by rw[e]at hnone;rw[hnone]at ho;cases ho
     rw[a3,a4,Heap.get_cons,if_neg hne];exact⟨ho,by simp[Ne.symm hne]⟩
    rcases kw hu with⟨e1,e2,hu⟩|⟨σ,y,rfl,_,e1,e2,u',hs,rfl,hd⟩
    ·obtain⟨m',a1,a2,a3,a4,a5,a6,a7⟩:=F9 hi hnone hu hfu;rw[e1,e2];exact⟨m',a1,a2,a3,a5,a6,⟨by rw[bZ (bA hu)];exact a7,trivial⟩,λu' hu' hn=>jb a1 a2 a3 a4 hu' (λb hb hb'=>hn b hb ⟨u,by simp,hb'⟩),keep a3 a4⟩
    obtain⟨m',a1,a2,a3,a4,a5,a6,a7⟩:=gP hi hnone hd (λv hv b hb=>hfu b ((bY hd.one).2 ⟨v,hv,hb⟩));rw[e1,e2];exact⟨m',a1,a2,a3,a5,a6,⟨a7,trivial⟩,λu2 hu2 hn=>jb a1 a2 a3 a4 hu2 (λb hb hb'=>hn b hb ⟨_,by simp,hb'⟩),keep a3 a4⟩
 |o,.int k',x,site,c,cs,m,G',hi,h,hr,hp,hf=>by simp only[eF,aw,B3]at h;obtain⟨rfl,rfl⟩:=h;exact⟨m,rfl,rfl,rfl,hi,Evo.refl m,by rw[br (τ:=.int k') hr];exact bm (τ:=.int k') hr,λ_ h _=>h,λ_ _ h=>⟨h,rfl⟩⟩
 |o,.bool,x,site,c,cs,m,G',hi,h,hr,hp,hf=>by simp only[eF,aw,B3]at h;obtain⟨rfl,rfl⟩:=h;exact⟨m,rfl,rfl,rfl,hi,Evo.refl m,by rw[br (τ:=.bool) hr];exact bm (τ:=.bool) hr,λ_ h _=>h,λ_ _ h=>⟨h,rfl⟩⟩
 |o,.str,x,site,c,cs,m,G',hi,h,hr,hp,hf=>by simp only[eF,aw,B3]at h;obtain⟨rfl,rfl⟩:=h;exact⟨m,rfl,rfl,rfl,hi,Evo.refl m,by rw[br (τ:=.str) hr];exact bm (τ:=.str) hr,λ_ h _=>h,λ_ _ h=>⟨h,rfl⟩⟩
 |_,.arr _ _,_,_,_,_,_,_,_,_,h,_,_=>h.elim
 |o,.ptr e,x,site,c,cs,m,G',hi,h,hr,hp,hf=>by simp only[eF,aw,B3]at h;obtain⟨rfl,rfl⟩:=h;have hr:Rd m.w m.F (.ptr e) cs x:=hr;exact⟨m,rfl,rfl,rfl,hi,Evo.refl m,by rw[br hr];exact bm (τ:=.ptr e) hr,λ_ h _=>h,λ_ _ h=>⟨h,rfl⟩⟩
 |_,.clo _ _,_,_,_,_,_,_,_,_,h,_,_=>h.elim
theorem zn (hi:Inv C w0 M m){i:Nat}(hn:m.G.get i=none){b:Nat}{c:Array Value}{el:TypeId}{l:List Atom}(h1:m.w.heap[b]?=some (.cells c el (0,0)))(h2:∀ u∈c.toList,u.oneCell'=true)(h3:Rel2 (ai m) c.toList l)
  (hb:cM w0 M m (.pointer (some ⟨b,0,none⟩))) :
  ∃ m',m'.w=m.w/\m'.F=m.F/\m'.G=(i,.box l)::m.G/\m'.ι=(λk=>if k=i then .pointer (some ⟨b,0,none⟩)else m.ι k)/\Inv C w0 M m'/\Evo m m'/\ai m' (.pointer (some ⟨b,0,none⟩)) (.ptr i 0):=by
 have he:Evo m ⟨m.w,m.F,λk=>if k=i then .pointer (some ⟨b,0,none⟩)else m.ι k,(i,.box l)::m.G⟩:=by
  refine⟨λb hF=>⟨hF,rfl⟩,λid p hp=>?_⟩;have hne:i≠id:=λe=>by subst e;rw[hn]at hp;cases hp
  exact⟨p,by rw[Heap.get_cons,if_neg hne];exact hp,.inr (.inl ⟨by simp[Ne.symm hne],Alike.refl p⟩)⟩
 refine⟨⟨m.w,m.F,λk=>if k=i then .pointer (some ⟨b,0,none⟩)else m.ι k,(i,.box l)::m.G⟩,rfl,rfl,rfl,rfl,⟨hi.kept,?_,?_,?_,hi.fro,λg τ x hg=>hi.glob g τ x hg,hi.bnd,bI he hi.pin⟩,he,?_⟩
 ·intro id p hp;rw[Heap.get_cons]at hp;split at hp
  ·rename_i e0;subst e0;simp only[aw]at hp;subst hp;exact⟨b,c,el,by simp,h1,h2,cI he h3⟩
  rename_i hne;exact bL he (by simp[Ne.symm hne]) (λ_ _=>rfl) (hi.objs id p hp)
 ·intro id p b hp hop hbl;rw[Heap.get_cons]at hp;split at hp
  ·rename_i e0;subst e0;obtain⟨h1,h2,h3,_⟩:=hb b (by simpa using hbl);exact⟨h1,h2,h3⟩
  rename_i hne;exact hi.own id p b hp hop (by simpa[Ne.symm hne]using hbl)
 ·intro j k p q b hp hop hq hoq hj hk;rw[Heap.get_cons]at hp hq;split at hp<;>split at hq
  ·omega
  ·rename_i e0 hne;subst e0
   exact absurd (by simpa[Ne.symm hne]using hk) ((hb b (by simpa using hj)).2.2.2 k q hq hoq)
  ·rename_i hne e0;subst e0
   exact absurd (by simpa[Ne.symm hne]using hj) ((hb b (by simpa using hk)).2.2.2 j p hp hop)
  rename_i n1 n2;exact hi.inj j k p q b hp hop hq hoq (by simpa[Ne.symm n1]using hj) (by simpa[Ne.symm n2]using hk)
 exact⟨rfl,.box l,by rw[Heap.get_cons,if_pos rfl],b,by simp,rfl⟩
theorem nJ {d:Bool}:∀{τ : Ty} {x : τ.den} {site:Nat} {c:List Atom} {cs:List Value} {m:Mem} {G':Heap},Inv C w0 M m->bd d τ x site m.G=some (c,G')->OwnRd m.w m.F d τ cs x ->
  cm (aO τ cs)->(∀ u∈aO τ cs,cM w0 M m u) ->
  ∃ m',m'.w=m.w/\m'.F=m.F/\m'.G=G'/\Inv C w0 M m'/\Evo m m'/\Rel2 (ai m') (cs.map aP) c/\(∀ u',cM w0 M m u'->(∀ b,HB u' b->¬cL (aO τ cs) b)->cM w0 M m' u') /\
   ∀ id ob,m.G.get id=some ob->m'.G.get id=some ob/\m'.ι id=m.ι id
 |.prod a b,x,site,c,cs,m,G',hi,h,hr,hp,hf=>by
  obtain⟨c1,c2,rfl,h1,h2⟩:=hr;simp only[aO,<- h1.len,KF,KT]at hp hf ⊢;obtain⟨hp1,hp2,hp3⟩:=Kh.1 hp;simp only[bd]at h;split at h
  ·rename_i p hp0;split at h
   ·rename_i q hq0;simp only[aw,B3]at h;obtain⟨rfl,rfl⟩:=h;obtain⟨m1,a1,a2,a3,a4,a5,a6,a7,a8⟩:=nJ (G':=p.2) hi hp0 h1 hp1 (λu hu=>hf u (by simp[hu]));have free2:∀ u∈aO b c2,cM w0 M m1 u:=λu hu=>a7 u (hf u (by simp[hu])) (by
     rintro bl hbl ⟨u',hu',hbl'⟩;exact hp3 u' hu' u hu bl hbl' hbl)
    obtain⟨m2,b1,b2,b3,b4,b5,b6,b7,b8⟩:=nJ (G':=q.2) a4 (by rw[a3];exact hq0) (by rw[a1,a2];exact h2) hp2 free2;refine⟨m2,b1.trans a1,b2.trans a2,b3,b4,a5.trans b5,by rw[KY];exact(cI b5 a6).append b6,λu' hu' hn=>b7 u' (a7 u' hu' ?_) ?_,λid ob ho=>⟨(b8 id ob (a8 id ob ho).1).1,(b8 id ob (a8 id ob ho).1).2.trans (a8 id ob ho).2⟩⟩
    ·rintro bl hbl ⟨u,hu,hbl'⟩;exact hn bl hbl ⟨u,by simp[hu],hbl'⟩
    rintro bl hbl ⟨u,hu,hbl'⟩;exact hn bl hbl ⟨u,by simp[hu],hbl'⟩
   simp at h
  simp at h
 |.unit,x,site,c,cs,m,G',hi,h,hr,hp,hf=>by simp only[bd,aw,B3]at h;obtain⟨rfl,rfl⟩:=h;unfold OwnRd at hr;subst hr;exact⟨m,rfl,rfl,rfl,hi,Evo.refl m,trivial,λ_ h _=>h,λ_ _ h=>⟨h,rfl⟩⟩
 |.slice e,x,site,c,cs,m,G',hi,h,hr,hp,hf=>by
  simp only[bd]at h;cases hh:m.G.has (ar 64 m.G site)with
  |true=>rw[hh]at h;simp at h
  |false=>
   rw[hh]at h;simp only[UB,aw,B3]at h;obtain⟨rfl,rfl⟩:=h;obtain⟨u,rfl,hu⟩:=hr;have hfu:=hf u (by simp[aO]);have hnone:=fA hh;have keep {m':Mem} {ob:Obj} {v:Value} (a3:m'.G=(ar 64 m.G site,ob)::m.G) (a4:m'.ι=(λk'=>if k'=ar 64 m.G site then v else m.ι k')):∀ id ob,m.G.get id=some ob->m'.G.get id=some ob/\m'.ι id=m.ι id:=by
    intro id ob' ho;have hne:ar 64 m.G site≠id:=λe=>by rw[e]at hnone;rw[hnone]at ho;cases ho
    rw[a3,a4,Heap.get_cons,if_neg hne];exact⟨ho,by simp[Ne.symm hne]⟩
   rcases kw hu with⟨e1,e2,hu⟩|⟨σ,y,rfl,_,e1,e2,u',hs,rfl,hd⟩
   ·obtain⟨m',a1,a2,a3,a4,a5,a6,a7⟩:=F9 hi (fA hh) hu hfu;rw[e1,e2];exact⟨m',a1,a2,a3,a5,a6,⟨by rw[bZ (bA hu)];exact a7,trivial⟩,λu' hu' hn=>jb a1 a2 a3 a4 hu' (λb hb hb'=>hn b hb ⟨u,by simp[aO],hb'⟩),keep a3 a4⟩
   obtain⟨m',a1,a2,a3,a4,a5,a6,a7⟩:=gP hi (fA hh) hd (λv hv b hb=>hfu b ((bY hd.one).2 ⟨v,hv,hb⟩));rw[e1,e2];exact⟨m',a1,a2,a3,a5,a6,⟨a7,trivial⟩,λu2 hu2 hn=>jb a1 a2 a3 a4 hu2 (λb hb hb'=>hn b hb ⟨_,by simp[aO],hb'⟩),keep a3 a4⟩
 |.int k,x,site,c,cs,m,G',hi,h,hr,hp,hf=>by simp only[bd,aw,B3]at h;obtain⟨rfl,rfl⟩:=h;exact⟨m,rfl,rfl,rfl,hi,Evo.refl m,by rw[br (τ:=.int k) hr];exact bm (τ:=.int k) hr,λ_ h _=>h,λ_ _ h=>⟨h,rfl⟩⟩
 |.bool,x,site,c,cs,m,G',hi,h,hr,hp,hf=>by simp only[bd,aw,B3]at h;obtain⟨rfl,rfl⟩:=h;exact⟨m,rfl,rfl,rfl,hi,Evo.refl m,by rw[br (τ:=.bool) hr];exact bm (τ:=.bool) hr,λ_ h _=>h,λ_ _ h=>⟨h,rfl⟩⟩
 |.str,x,site,c,cs,m,G',hi,h,hr,hp,hf=>by simp only[bd,aw,B3]at h;obtain⟨rfl,rfl⟩:=h;exact⟨m,rfl,rfl,rfl,hi,Evo.refl m,by rw[br (τ:=.str) hr];exact bm (τ:=.str) hr,λ_ h _=>h,λ_ _ h=>⟨h,rfl⟩⟩
 |.arr _ _,_,_,_,_,_,_,_,_,h,_,_=>h.elim
 |.ptr T,x,site,c,cs,m,G',hi,h,hr,hp,hf=>by
  simp only[bd]at h;split at h
  ·rename_i p hp0;obtain⟨u,rfl,b,cc,el,ds,rfl,k2,k3,k4,k5⟩:=hr;obtain⟨kp1,kp2⟩:=Jr.1 k5;have hfu:=hf (jl (.pointer (some ⟨b,0,none⟩)) (bn (dm d T) 0 T ds)) (JH ..);have hfr:∀ v∈bn (dm d T) 0 T ds,cM w0 M m v:=λv hv bl hb=>hfu bl (eB.2 (.inr ⟨v,hv,hb⟩));obtain⟨m1,a1,a2,a3,a4,a5,a6,a7,a8⟩:=jw (G':=p.2) (c:=p.1) hi hp0 k4 kp2 hfr;cases hh:p.2.has (ar 64 p.2 site)with
   |true=>rw[hh]at h;simp at h
   |false=>
    rw[hh]at h;simp only[UB,aw,B3]at h;obtain⟨rfl,rfl⟩:=h;have hnone:m1.G.get (ar 64 p.2 site)=none:=by rw[a3];exact fA hh
    have hfp:cM w0 M m1 (.pointer (some ⟨b,0,none⟩)):=a7 _ (λbl hb=>hfu bl (eB.2 (.inl hb))) (by
     rintro bl hbl ⟨v,hv,hbl'⟩;exact kp1 v hv bl hbl hbl')
    obtain⟨m2,b1,b2,b3,b4,b5,b6,b7⟩:=zn (c:=cc) (el:=el) (l:=p.1) a4 hnone (by rw[a1];exact k2) (by rw[k3];exact k4.one) (by rw[k3];exact a6) hfp;refine⟨m2,b1.trans a1,b2.trans a2,by rw[b3,a3],b5,a5.trans b6,⟨by rw[cw];exact b7,trivial⟩,λu' hu' hn=>jb b1 b2 b3 b4 (a7 u' hu' ?_) (λbl hb hb'=>hn bl hb ⟨jl (.pointer (some ⟨b,0,none⟩)) (bn (dm d T) 0 T ds),JH ..,eB.2 (.inl hb')⟩),λid ob ho=>?_⟩
    ·rintro bl hbl ⟨v,hv,hbl'⟩;exact hn bl hbl ⟨jl (.pointer (some ⟨b,0,none⟩)) (bn (dm d T) 0 T ds),JH ..,eB.2 (.inr ⟨v,hv,hbl'⟩)⟩
    obtain⟨g1,g2⟩:=a8 id ob ho;have hne:ar 64 p.2 site≠id:=λe=>by rw[e]at hnone;rw[hnone]at g1;cases g1
    rw[b3,b4,Heap.get_cons,if_neg hne];exact⟨g1,by simp only[if_neg (Ne.symm hne)];exact g2⟩
  simp at h
 |.clo g e,x,site,c,cs,m,G',hi,h,hr,hp,hf=>by
  cases e with
  |unit=>simp only[bd,aw,B3]at h;obtain⟨rfl,rfl⟩:=h;have hr:Rd m.w m.F (.clo g .unit) cs x:=hr;exact⟨m,rfl,rfl,rfl,hi,Evo.refl m,by rw[br (τ:=.clo g .unit) hr];exact bm (τ:=.clo g .unit) hr,λ_ h _=>h,λ_ _ h=>⟨h,rfl⟩⟩
  |_=>exact hr.elim
theorem zG{τ:Ty}{cs:List Value}{c:List Atom}{v:Value}(hl:cs.length=τ.size)(h1:∀ u∈cs,u.oneCell'=true)(hr:Rel2 (ai m) cs c)(hv:v=toV τ cs):eW m v (τ.isAgg,c):=by
 subst hv;unfold eW;cases ha:τ.isAgg with
 |true=>exact⟨cs,by simp[toV,ha],h1,hr⟩
 |false=>have hs:=ej ha;rw[hs]at hl;obtain⟨u,rfl⟩:=Lg.1 hl;have hc:=hr.length;obtain⟨b,rfl⟩:=Lg.1 (hc.symm.trans rfl);exact⟨b,rfl,by simpa[toV,ha]using hr.1⟩
theorem lT {d:Bool}:∀{outs:List (Bool×Ty)} {x:(ac (outs.map (·.2))).den} {site:Nat} {q:List (Bool×List Atom)} {css:List (List Value)} {m:Mem} {G':Heap},Inv C w0 M m->dY d outs x site m.G=some (q,G')->OutsRd m.w m.F d outs css x ->
  cm (bS outs css)->(∀ u∈bS outs css,cM w0 M m u) ->
  ∃ m',m'.w=m.w/\m'.F=m.F/\m'.G=G'/\Inv C w0 M m'/\Evo m m'/\Rel2 (eW m') (kf outs css) q/\(∀ u',cM w0 M m u'->(∀ b,HB u' b->¬cL (bS outs css) b)->cM w0 M m' u') /\
   ∀ id ob,m.G.get id=some ob->m'.G.get id=some ob/\m'.ι id=m.ι id
 |[],x,site,q,css,m,G',hi,h,hr,hp,hf=>by simp only[dY,aw,B3]at h;obtain⟨rfl,rfl⟩:=h;exact⟨m,rfl,rfl,rfl,hi,Evo.refl m,by cases css<;>trivial,λ_ h _=>h,λ_ _ h=>⟨h,rfl⟩⟩
 |_::_,_,_,_,[],_,_,_,_,h,_,_=>h.elim
 |(b,τ)::r,x,site,q,cs::css,m,G',hi,h,hr,hp,hf=>by
  obtain⟨hr1,hr2⟩:=hr;simp only[dY]at h;simp only[bS]at hp hf;obtain⟨hp1,hp2,hp3⟩:=Kh.1 hp;have fin {m1:Mem} {c:List Atom} (a1:m1.w=m.w) (a2:m1.F=m.F) (a4:Inv C w0 M m1) (a5:Evo m m1) (a6:Rel2 (ai m1) (cond b (cs.map aP) cs) c) (hone:∀ u∈cond b (cs.map aP) cs,u.oneCell'=true) (hlen:(cond b (cs.map aP) cs).length=τ.size)
    (a7:∀ u∈bS r css,cM w0 M m1 u) (a8:∀ u',cM w0 M m u'->(∀ bl,HB u' bl->¬cL (cond b (aO τ cs) []) bl)->cM w0 M m1 u') (a9:∀ id ob,m.G.get id=some ob->m1.G.get id=some ob/\m1.ι id=m.ι id) {q2:List (Bool×List Atom)×Heap} (hq:dY d r x.2 site m1.G=some q2) (hqq:q=(τ.isAgg,c)::q2.1) (hG:G'=q2.2) :
    ∃ m',m'.w=m.w/\m'.F=m.F/\m'.G=G'/\Inv C w0 M m'/\Evo m m'/\Rel2 (eW m') (kf ((b,τ)::r) (cs::css)) q/\(∀ u',cM w0 M m u'->(∀ bl,HB u' bl->¬cL (bS ((b,τ)::r) (cs::css)) bl)->cM w0 M m' u') /\
     ∀ id ob,m.G.get id=some ob->m'.G.get id=some ob/\m'.ι id=m.ι id:=by
   subst hqq;subst hG;obtain⟨m2,b1,b2,b3,b4,b5,b6,b7,b9⟩:=lT (G':=q2.2) (q:=q2.1) a4 hq (by rw[a1,a2];exact hr2) hp2 a7;refine⟨m2,b1.trans a1,b2.trans a2,b3,b4,a5.trans b5,⟨zG hlen hone (cI b5 a6) rfl,b6⟩,λu' hu' hn=>b7 u' (a8 u' hu' ?_) ?_,λid ob ho=>⟨(b9 id ob (a9 id ob ho).1).1,(b9 id ob (a9 id ob ho).1).2.trans (a9 id ob ho).2⟩⟩
   ·rintro bl hbl ⟨u,hu,hbl'⟩;exact hn bl hbl ⟨u,by simp only[bS,A4];exact .inl hu,hbl'⟩
   rintro bl hbl ⟨u,hu,hbl'⟩;exact hn bl hbl ⟨u,by simp only[bS,A4];exact .inr hu,hbl'⟩
  cases b with
  |true=>
   simp only[UA]at h hr1 hp1 hp3 hf;split at h
   ·rename_i c hc;split at h
    ·rename_i q2 hq2;simp only[aw,B3]at h;obtain⟨rfl,rfl⟩:=h;obtain⟨m1,a1,a2,a3,a4,a5,a6,a7,a9⟩:=nJ (G':=c.2) hi hc hr1 hp1 (λu hu=>hf u (by simp[hu]));refine fin a1 a2 a4 a5 a6 hr1.one (by simpa using hr1.len) (λu hu=>a7 u (hf u (by simp[hu])) ?_) a7 a9 (by rw[a3];exact hq2) rfl rfl;rintro bl hbl ⟨u',hu',hbl'⟩;exact hp3 u' hu' u hu bl hbl' hbl
    simp at h
   simp at h
  |false=>
   simp only[UB]at h hr1 hf;split at h
   ·rename_i q2 hq2;simp only[aw,B3]at h;obtain⟨rfl,rfl⟩:=h;exact fin rfl rfl hi (Evo.refl m) (bm hr1) hr1.one hr1.len (λu hu=>hf u (by simp[hu])) (λ_ h _=>h) (λ_ _ h=>⟨h,rfl⟩) hq2 rfl rfl
   simp at h
def BoxLive(m:Mem):List (Mode×Ty)->List Value->List SV->Prop
 |(.box _,_)::r,u::us,v::vs=>(∀ id o,v=.av (.ptr id o)->∃ l,m.G.get id=some (.box l)/\m.ι id=aP u)/\BoxLive m r us vs
 |_::r,_::us,_::vs=>BoxLive m r us vs
 |_,_,_=>True
theorem BoxLive.mono{m m':Mem}(h:∀ id l,m.G.get id=some (.box l)->(∃ l',m'.G.get id=some (.box l'))/\m'.ι id=m.ι id):∀{ins:List (Mode×Ty)} {us:List Value} {vs:List SV},BoxLive m ins us vs->BoxLive m' ins us vs
 |[],us,vs,_=>by cases us<;>cases vs<;>trivial
 |(md,τ)::r,[],vs,_=>by cases md<;>cases vs<;>trivial
 |(md,τ)::r,u::us,[],_=>by cases md<;>trivial
 |(md,τ)::r,u::us,v::vs,hb=>by
  cases md with
  |box k=>refine⟨λid o hv=>?_,BoxLive.mono h hb.2⟩;obtain⟨l,h1,h2⟩:=hb.1 id o hv;obtain⟨h3,h4⟩:=h id l h1;exact⟨h3.choose,h3.choose_spec,h4.trans h2⟩
  |rd=>exact BoxLive.mono (ins:=r) h hb
  |upd=>exact BoxLive.mono (ins:=r) h hb
  |take=>exact BoxLive.mono (ins:=r) h hb
theorem vO(w:World)(b:Nat):Wrote w b w:=⟨rfl,rfl,rfl,rfl,λ_ _=>rfl⟩
theorem dC:∀{ins:List (Mode×Ty)} {vs:List SV} {us:List Value} {y:(ac (aN ins)).den} {site:Nat} {m:Mem} {G':Heap},Inv C w0 M m->bH ins vs y site m.G=some G'->MutsRd m.w m.F ins us y->BoxLive m ins us vs ->
  cm (ba ins us)->(∀ u∈ba ins us,cM w0 M m (.tuple (fa u).tail.toArray)) ->
  ∃ m',m'.w=m.w/\m'.F=m.F/\m'.G=G'/\Inv C w0 M m'/\Evo m m'
 |[],vs,us,y,site,m,G',hi,h,hm,hl,hp,hf=>by
  have h:some m.G=some G':=by cases vs<;>exact h
  cases h;exact⟨m,rfl,rfl,rfl,hi,Evo.refl m⟩
 |(md,τ)::r,[],us,y,site,m,G',hi,h,hm,hl,hp,hf=>by
  cases md<;>first|(simp[bH]at h;done)|(cases τ<;>simp[bH]at h)
 |(md,τ)::r,v::vs,[],y,site,m,G',hi,h,hm,hl,hp,hf=>by
  cases md<;>first|exact hm.elim|(cases τ<;>exact hm.elim)
 |(.rd,τ)::r,v::vs,u::us,y,site,m,G',hi,h,hm,hl,hp,hf=>dC (ins:=r) (vs:=vs) (us:=us) (y:=y) hi h hm hl hp hf
 |(.take,τ)::r,v::vs,u::us,y,site,m,G',hi,h,hm,hl,hp,hf=>dC (ins:=r) (vs:=vs) (us:=us) (y:=y) hi h hm hl hp hf
 |(.upd,τ)::r,v::vs,u::us,y,site,m,G',hi,h,hm,hl,hp,hf=>by
  cases τ with
  |slice e=>exact dC (ins:=r) (vs:=vs) (us:=us) (y:=y.2) hi h hm.2 hl (Jr.1 (show Kv _ (u::ba r us)from hp)).2 (λu' hu'=>hf u' (by simp[ba,hu']))
  |_=>exact hm.elim
 |(.box k,τ)::r,v::vs,u::us,y,site,m,G',hi,h,hm,hl,hp,hf=>by
  cases τ with
  |ptr T=>
   obtain⟨hp1,hp2⟩:=Jr.1 (show Kv _ (u::ba r us)from hp);obtain⟨⟨b,c,el,cs,k1,k2,k3,k4,k5⟩,hm2⟩:=hm;obtain⟨hl1,hl2⟩:=hl;simp only[bH]at h;split at h
   ·rename_i id;split at h
    ·rename_i p hp0;obtain⟨l,l1,l2⟩:=hl1 id 0 rfl;rw[k1,cw]at l2;obtain⟨kp1,kp2⟩:=Jr.1 k5;have hfr:∀ v∈bn k 0 T cs,cM w0 M m v:=by
      intro v hv bl hbl;obtain⟨u',hu',hb'⟩:=jC.1 hbl;have hmem:u'∈(fa u).tail:=by rw[k1];simp only[jl,fa,My,Lh];exact⟨v,hv,hu'⟩
      exact hf u (by simp[ba]) bl ⟨u',hmem,hb'⟩
     obtain⟨m1,a1,a2,a3,a4,a5,a6,a7,a8⟩:=jw (G':=p.2) (c:=p.1) hi hp0 k4 kp2 hfr;obtain⟨g1,g2⟩:=a8 id _ l1;have hbl:HB (m1.ι id) b:=by rw[g2,l2];rfl
     obtain⟨i1,i2⟩:=di (o':=.box p.1) a4 g1 rfl hbl trivial (vO m1.w b) (λhe=>⟨b,c,el,by show m1.ι id=_;rw[g2,l2],by show m1.w.heap[b]?=_;rw[a1];exact k2,by rw[k3];exact k4.one,by rw[k3];exact cI he a6⟩);have hlive:BoxLive ⟨m1.w,m1.F,m1.ι,(id,.box p.1)::m1.G⟩ r us vs:=hl2.mono (λid' l' hg'=>by
      obtain⟨q1,q2⟩:=a8 id' _ hg';refine⟨?_,q2⟩;show ∃ l',Heap.get ((id,.box p.1)::m1.G) id'=some (.box l');rw[Heap.get_cons];split
      ·exact⟨_,rfl⟩
      exact⟨l',q1⟩)
     have hfree:∀ u'∈ba r us,cM w0 M ⟨m1.w,m1.F,m1.ι,(id,.box p.1)::m1.G⟩ (.tuple (fa u').tail.toArray):=by
      intro u' hu';have h1:cM w0 M m1 (.tuple (fa u').tail.toArray):=a7 _ (hf u' (by simp[ba,hu'])) (by
       rintro bl hbl ⟨v',hv',hbl'⟩;have e1:HB u bl:=by rw[k1];exact eB.2 (.inr ⟨v',hv',hbl'⟩)
       obtain⟨w1,hw1,hw2⟩:=hbl;have e2:HB u' bl:=jC.2 ⟨w1,LY (by simpa using hw1),hw2⟩;exact hp1 u' hu' bl e1 e2)
      intro bl hbl;obtain⟨q1,q2,q3,q4⟩:=h1 bl hbl;refine⟨q1,q2,q3,λid' o' ho' hob'=>?_⟩;change Heap.get ((id,.box p.1)::m1.G) id'=_ at ho';rw[Heap.get_cons]at ho';split at ho'
      ·rename_i e0;subst e0;exact q4 id _ g1 rfl
      exact q4 id' o' ho' hob'
     obtain⟨m2,b1,b2,b3,b4,b5⟩:=dC (ins:=r) (vs:=vs) (us:=us) (y:=y.2) (m:=⟨m1.w,m1.F,m1.ι,(id,.box p.1)::m1.G⟩) i1 (by show bH r vs y.2 site ((id,.box p.1)::m1.G)=_;rw[a3];exact h) (by show MutsRd m1.w m1.F r us y.2;rw[a1,a2];exact hm2) hlive hp2 hfree;exact⟨m2,b1.trans a1,b2.trans a2,b3,b4,a5.trans (i2.trans b5)⟩
    simp at h
   simp at h
  |_=>exact hm.elim
theorem Eo:∀{us:List Value} {q:List (Bool×List Atom)} (h:Rel2 (eW m) us q),RelSV m (eL us) (th q)
 |[],[],h=>⟨[],rfl,trivial⟩
 |[],_::_,h=>h.elim
 |_::_,[],h=>h.elim
 |[_],_::_::_,h=>h.2.elim
 |_::_::_,[_],h=>h.2.elim
 |u1::u2::us,q1::q2::q,h=>by
  have e:th (q1::q2::q)=.tup (q1::q2::q):=by
   unfold th;split
   ·rename_i e;cases e
   ·rename_i e;cases e
   rfl
  rw[e];exact⟨u1::u2::us,rfl,h⟩
 |[u],[(true,c)],h=>by have:=h.1;simp only[eW,UA]at this;exact this
 |[u],[(false,l)],h=>by have:=h.1;simp only[eW,UB]at this;obtain⟨a,h1,h2⟩:=this;subst h1;exact RelSV.of_atom h2
end
end Go.Vm

/-
 The machine's operations against the model's: a call.
-/
namespace Go.Vm
section
variable {P:Program}{C:Ctx}{w0:World}{M:Own}{o:Oper}{a:Act}{m:Mem}{s s':St}
theorem B0 (hi:Inv C w0 M m){w':World}{F1 Mc:Nat->Prop}{H:List Value}{G1:Heap}{S:List Nat}(hA:Aft m w' F1 H G1 S)(hk:Kept m.w Mc w')
  (hMc:∀ b,Mc b->∃ id o,id∈S/\m.G.get id=some o/\isObj o=true/\HB (m.ι id) b) (hF:∀ b,m.F b->F1 b) (hFlt:∀ b,F1 b->b<w'.heap.size)
  (hnF:∀ id o b,G1.get id=some o->isObj o=true->HB (m.ι id) b->¬F1 b) (hbnd:∀ b,F1 b->M.rd b\/M.wr b\/w0.heap.size<=b) :
  Inv C w0 M ⟨w',F1,m.ι,G1⟩/\Evo m ⟨w',F1,m.ι,G1⟩:=by
 have hMF:∀ b,m.F b->¬Mc b:=by intro b hb hm;obtain⟨id,o,_,h1,h2,h3⟩:=hMc b hm;exact(hi.own id o b h1 h2 h3).2.1 hb
 have he:Evo m ⟨w',F1,m.ι,G1⟩:=by
  refine⟨λb hb=>⟨hF b hb,hk.block b (hi.fro b hb) (hMF b hb)⟩,λid o ho=>?_⟩;obtain⟨o',h1,h2⟩:=hA.get id o ho;refine⟨o',h1,?_⟩;rcases h2 with h2|h2
  ·exact .inl h2
  exact .inr (.inl ⟨rfl,h2⟩)
 have alive:∀ id o,G1.get id=some o->isObj o=true->∃ o',m.G.get id=some o'/\isObj o'=true:=by
  intro id o ho hob;rcases hA.old id o ho hob with⟨_,h⟩|⟨o0,h,h',_⟩
  ·exact⟨o,h,hob⟩
  exact⟨_,h,h'⟩
 refine⟨⟨?_,?_,?_,?_,hFlt,λg τ x hg=>(hi.glob g τ x hg).mono he.fro,hbnd,bI he hi.pin⟩,he⟩
 ·refine⟨hk.os.trans hi.kept.os,hk.tape.trans hi.kept.tape,hk.output.trans hi.kept.output,Nat.le_trans hi.kept.size hk.size,λb hb hM=>?_⟩;have:=hi.kept.size;refine(hk.block b (by omega) ?_).trans (hi.kept.block b hb hM);intro hm;obtain⟨id,o,_,h1,h2,h3⟩:=hMc b hm;rcases(hi.own id o b h1 h2 h3).1 with h|h
  ·omega
  exact hM h
 ·intro id o ho;by_cases hob:isObj o=true
  ·rcases hA.old id o ho hob with⟨h1,h2⟩|⟨o0,h1,h2,h3,h4,_⟩
   ·refine bL he rfl (λb hb=>hk.block b (hi.own id o b h2 hob hb).2.2 ?_) (hi.objs id o h2);intro hm;obtain⟨id',o',k1,k2,k3,k4⟩:=hMc b hm;have:=hi.inj id id' o o' b h2 hob k2 k3 hb k4;subst this;exact h1 k1
   exact h4 _
  cases o<;>simp_all[isObj,cQ]
 ·intro id o b ho hob hb;obtain⟨o',h1,h2⟩:=alive id o ho hob;obtain⟨k1,k2,k3⟩:=hi.own id o' b h1 h2 hb;exact⟨k1,hnF id o b ho hob hb,JQ k3 hk.size⟩
 intro i j p q b hp hop hq hoq h1 h2;obtain⟨p',p1,p2⟩:=alive i p hp hop;obtain⟨q',q1,q2⟩:=alive j q hq hoq;exact hi.inj i j p' q' b p1 p2 q1 q2 h1 h2
theorem pI{w:World}{F F':Nat->Prop}{d:Bool}{e:Ty}{g:Value}{x:List e.den}(hf:cond d (Ty.slice e).shallowD (Ty.slice e).shallow=true)(h:kN w F d e g x):kN w F' d e g x:=by
 cases e with
 |slice σ=>
  cases d with
  |true=>
   obtain⟨u,hs,rfl,h⟩:=h;have hf:σ.flat=true:=hf;exact⟨u,hs,rfl,h.len,by
    obtain⟨ad,cap,h1,h2,h3,h4⟩:=h.outer;exact⟨ad,cap,h1,h2,h3,h4⟩,λi hi v hv hn=>(h.inner i hi v hv hn).flat hf,h.gone,h.apart⟩
  |false=>exact HdrW.flat (e:=.slice σ) hf h
 |_=>exact HdrW.flat (by cases d<;>exact hf) h
theorem OwnRd.flat{w:World}{F F':Nat->Prop}{d:Bool}:∀{τ:Ty} {cs:List Value} {x:τ.den},cond d τ.shallowD τ.shallow=true->OwnRd w F d τ cs x->OwnRd w F' d τ cs x
 |.prod a b,_,_,hf,h=>by
  have hf:cond d a.shallowD a.shallow=true/\cond d b.shallowD b.shallow=true:=by cases d<;>simpa[Ty.shallow,Ty.shallowD]using hf
  obtain⟨c1,c2,rfl,h1,h2⟩:=h;exact⟨c1,c2,rfl,h1.flat hf.1,h2.flat hf.2⟩
 |.unit,_,_,_,h=>h
 |.slice _,_,_,hf,h=>by obtain⟨u,rfl,h⟩:=h;exact⟨u,rfl,pI hf h⟩
 |.int _,_,_,_,h=>h
 |.bool,_,_,_,h=>h
 |.str,_,_,_,h=>h
 |.arr _ _,_,_,_,h=>h.elim
 |.ptr _,_,_,hf,h=>by cases d<;>simp[Ty.shallow,Ty.shallowD]at hf
 |.clo g e,_,_,_,h=>by
  cases e with
  |unit=>exact h
  |_=>exact h.elim
theorem OutsRd.flat{w:World}{F F':Nat->Prop}{d:Bool}:∀{outs:List (Bool×Ty)} {css:List (List Value)} {x:(ac (outs.map (·.2))).den},(outs.all λp=>p.1&&cond d p.2.shallowD p.2.shallow)=true->OutsRd w F d outs css x->OutsRd w F' d outs css x
 |[],[],_,_,_=>trivial
 |[],_::_,_,_,h=>h.elim
 |_::_,[],_,_,h=>h.elim
 |(b,τ)::r,cs::css,x,hf,h=>by simp only[Lz,np]at hf;obtain⟨⟨hb,hs⟩,hf2⟩:=hf;subst hb;exact⟨OwnRd.flat hs h.1,OutsRd.flat hf2 h.2⟩
theorem BoxRd.flat{w:World}{F F':Nat->Prop}{k:List Nat}:∀{o:Nat} {τ:Ty} {cs:List Value} {x:τ.den},pW k o τ=true->BoxRd w F k o τ cs x->BoxRd w F' k o τ cs x
 |o,.prod a b,_,_,hf,h=>by simp only[pW,np]at hf;obtain⟨c1,c2,rfl,h1,h2⟩:=h;exact⟨c1,c2,rfl,h1.flat hf.1,h2.flat hf.2⟩
 |_,.unit,_,_,_,h=>h
 |o,.slice e,_,_,hf,h=>by simp only[pW,np,Jw]at hf;unfold BoxRd at h ⊢;rw[hf.1]at h ⊢;obtain⟨u,rfl,h⟩:=h;exact⟨u,rfl,pI hf.2 h⟩
 |_,.int _,_,_,_,h=>h
 |_,.bool,_,_,_,h=>h
 |_,.str,_,_,_,h=>h
 |_,.arr _ _,_,_,_,h=>h.elim
 |_,.ptr _,_,_,hf,h=>by simp[pW]at hf
 |_,.clo _ _,_,_,_,h=>h.elim
theorem MutsRd.flat{w:World}{F F':Nat->Prop}:∀{ins:List (Mode×Ty)} {us:List Value} {y:(ac (aN ins)).den},iy ins=true->MutsRd w F ins us y->MutsRd w F' ins us y
 |[],_,_,_,_=>trivial
 |(md,τ)::_,[],_,_,h=>by cases md<;>first|exact h.elim|(cases τ<;>exact h.elim)
 |(.rd,_)::r,_::us,y,hf,h=>MutsRd.flat (ins:=r) (us:=us) (y:=y) hf h
 |(.take,_)::r,_::us,y,hf,h=>MutsRd.flat (ins:=r) (us:=us) (y:=y) hf h
 |(.upd,τ)::r,u::us,y,hf,h=>by
  cases τ with
  |slice e=>simp only[iy,np]at hf;exact⟨HdrW.flat hf.1 h.1,MutsRd.flat hf.2 h.2⟩
  |_=>exact h.elim
 |(.box k,τ)::r,u::us,y,hf,h=>by
  cases τ with
  |ptr T=>simp only[iy,np]at hf;obtain⟨⟨b,c,el,cs,k1,k2,k3,k4,k5⟩,h2⟩:=h;exact⟨⟨b,c,el,cs,k1,k2,k3,k4.flat hf.1,k5⟩,MutsRd.flat hf.2 h2⟩
  |_=>exact h.elim
theorem fB{w:World}{F:Nat->Prop}:∀{ins:List (Mode×Ty)} {us:List Value} {y:(ac (aN ins)).den},MutsRd w F ins us y->∀{b:Nat},cL (cT ins us) b->cL (ba ins us) b
 |[],us,_,_,b,h=>by obtain⟨u,hu,_⟩:=h;cases us<;>simp[cT]at hu
 |(md,τ)::r,[],_,h,b,_=>by cases md<;>first|exact h.elim|(cases τ<;>exact h.elim)
 |(.rd,_)::r,_::us,y,h,b,ha=>fB (ins:=r) (us:=us) (y:=y) h ha
 |(.take,_)::r,_::us,y,h,b,ha=>fB (ins:=r) (us:=us) (y:=y) h ha
 |(.upd,τ)::r,u::us,y,h,b,ha=>by
  cases τ with
  |slice e=>
   obtain⟨v,hv,hb⟩:=ha;rcases A8.1 (show v∈u::cT r us from hv)with rfl|hv
   ·exact⟨_,by simp[ba],hb⟩
   obtain⟨v',hv',hb'⟩:=fB (ins:=r) (us:=us) (y:=y.2) h.2 ⟨v,hv,hb⟩;exact⟨v',by simp[ba,hv'],hb'⟩
  |_=>exact h.elim
 |(.box k,τ)::r,u::us,y,h,b,ha=>by
  cases τ with
  |ptr T=>
   obtain⟨v,hv,hb⟩:=ha;rcases A8.1 (show v∈aP u::cT r us from hv)with rfl|hv
   ·obtain⟨⟨bl,c,el,cs,k1,_⟩,_⟩:=h;refine⟨u,by simp[ba],?_⟩;rw[k1,cw]at hb;rw[k1];exact eB.2 (.inl hb)
   obtain⟨v',hv',hb'⟩:=fB (ins:=r) (us:=us) (y:=y.2) h.2 ⟨v,hv,hb⟩;exact⟨v',by simp[ba,hv'],hb'⟩
  |_=>exact h.elim
theorem gu{u:Value}{b:Nat}(h:HB (.tuple (fa u).tail.toArray) b):HB u b:=by obtain⟨w1,hw1,hw2⟩:=h;exact jC.2 ⟨w1,LY (by simpa using hw1),hw2⟩
theorem fX{w:World}{F:Nat->Prop}:∀{ins:List (Mode×Ty)} {us:List Value} {y:(ac (aN ins)).den},MutsRd w F ins us y->cm (ba ins us)->∀ u∈ba ins us,∀ b,HB (.tuple (fa u).tail.toArray) b->¬cL (cT ins us) b
 |[],us,_,_,_,u,hu,_,_=>by cases us<;>simp[ba]at hu
 |(md,τ)::r,[],_,h,_,_,_,_,_=>by cases md<;>first|exact h.elim|(cases τ<;>exact h.elim)
 |(.rd,_)::r,_::us,y,h,hp,u,hu,b,hb=>fX (ins:=r) (us:=us) (y:=y) h hp u hu b hb
 |(.take,_)::r,_::us,y,h,hp,u,hu,b,hb=>fX (ins:=r) (us:=us) (y:=y) h hp u hu b hb
 |(.upd,τ)::r,u0::us,y,h,hp,u,hu,b,hb=>by
  cases τ with
  |slice e=>
   obtain⟨hp1,hp2⟩:=Jr.1 (show Kv _ (u0::ba r us)from hp);rcases A8.1 (show u∈u0::ba r us from hu)with rfl|hu1
   ·have h1:u.oneCell'=true:=bA h.1;obtain⟨w1,hw1,_⟩:=hb;cases u<;>simp_all[fa,Value.oneCell']
   rintro⟨z,hz,hzb⟩;rcases A8.1 (show z∈u0::cT r us from hz)with rfl|hz
   ·exact hp1 u hu1 b hzb (gu hb)
   exact fX (ins:=r) (us:=us) (y:=y.2) h.2 hp2 u hu1 b hb ⟨z,hz,hzb⟩
  |_=>exact h.elim
 |(.box k,τ)::r,u0::us,y,h,hp,u,hu,b,hb=>by
  cases τ with
  |ptr T=>
   obtain⟨hp1,hp2⟩:=Jr.1 (show Kv _ (u0::ba r us)from hp);obtain⟨⟨bl,c,el,cs,k1,k2,k3,k4,k5⟩,h2⟩:=h;rcases A8.1 (show u∈u0::ba r us from hu)with rfl|hu1
   ·rintro⟨z,hz,hzb⟩;rcases A8.1 (show z∈aP u::cT r us from hz)with rfl|hz
    ·rw[k1,cw]at hzb;obtain⟨w1,hw1,hw2⟩:=hb;rw[k1]at hw1;simp only[jl,fa,My,Lh]at hw1;obtain⟨v,hv,hv2⟩:=hw1;exact(Jr.1 k5).1 v hv b hzb (jC.2 ⟨w1,hv2,hw2⟩)
    obtain⟨u2,hu2,hb2⟩:=fB h2 ⟨z,hz,hzb⟩;exact hp1 u2 hu2 b (gu hb) hb2
   rintro⟨z,hz,hzb⟩;rcases A8.1 (show z∈aP u0::cT r us from hz)with rfl|hz
   ·rw[k1,cw]at hzb;exact hp1 u hu1 b (by rw[k1];exact eB.2 (.inl hzb)) (gu hb)
   exact fX (ins:=r) (us:=us) (y:=y.2) h2 hp2 u hu1 b hb ⟨z,hz,hzb⟩
  |_=>exact h.elim
def bQ:List (Mode×Ty)->List SV->List Nat
 |(.box _,_)::r,.av (.ptr i _)::vs=>i::bQ r vs
 |_::r,_::vs=>bQ r vs
 |_,_=>[]
theorem nc{G:Heap}:∀{ins:List (Mode×Ty)} {vs:List SV},cK G ins vs=true->(∀ i∈bQ ins vs,i∈bB ins vs)/\(∀ i∈bB ins vs,i∈(aV G ins vs).2)/\(∀ i∈bz G ins vs,i∈(aV G ins vs).2)/\(aH (aV G ins vs).2=true->aH (bB ins vs)=true/\∀ i∈bB ins vs,i∉bz G ins vs)
 |[],vs,_=>by cases vs<;>simp[bQ,bB,bz,aV,aH]
 |(md,τ)::r,[],_=>by cases md<;>simp[bQ,bB,bz,aV,aH]
 |(.rd,τ)::r,v::vs,hb=>nc (ins:=r) (vs:=vs) hb
 |(.upd,τ)::r,v::vs,hb=>by
  obtain⟨h0,h1,h2,h3⟩:=nc (ins:=r) (vs:=vs) hb;have e:bB ((.upd,τ)::r) (v::vs)=bJ v++bB r vs:=rfl;have e2:(aV G ((.upd,τ)::r) (v::vs)).2=bJ v++(aV G r vs).2:=rfl;have e3:bz G ((.upd,τ)::r) (v::vs)=bz G r vs:=rfl;have e4:bQ ((.upd,τ)::r) (v::vs)=bQ r vs:=rfl;rw[e,e2,e3,e4];refine⟨λi hi=>by simp[h0 i hi],λi hi=>?_,λi hi=>by simp[h2 i hi],λhn=>?_⟩
  ·rcases A4.1 hi with hi|hi
   ·simp[hi]
   simp[h1 i hi]
  obtain⟨n1,n2,n3⟩:=aU hn;obtain⟨m1,m2⟩:=h3 n2;refine⟨jE n1 m1 λi hi hi'=>n3 i hi (h1 i hi'),λi hi hi'=>?_⟩;rcases A4.1 hi with hi|hi
  ·exact n3 i hi (h2 i hi')
  exact m2 i hi hi'
 |(.take,τ)::r,v::vs,hb=>by
  obtain⟨h0,h1,h2,h3⟩:=nc (ins:=r) (vs:=vs) hb;have e:bB ((.take,τ)::r) (v::vs)=bJ v++bB r vs:=rfl;have e2:(aV G ((.take,τ)::r) (v::vs)).2=bJ v++(aV G r vs).2:=rfl;have e3:bz G ((.take,τ)::r) (v::vs)=bz G r vs:=rfl;have e4:bQ ((.take,τ)::r) (v::vs)=bQ r vs:=rfl;rw[e,e2,e3,e4];refine⟨λi hi=>by simp[h0 i hi],λi hi=>?_,λi hi=>by simp[h2 i hi],λhn=>?_⟩
  ·rcases A4.1 hi with hi|hi
   ·simp[hi]
   simp[h1 i hi]
  obtain⟨n1,n2,n3⟩:=aU hn;obtain⟨m1,m2⟩:=h3 n2;refine⟨jE n1 m1 λi hi hi'=>n3 i hi (h1 i hi'),λi hi hi'=>?_⟩;rcases A4.1 hi with hi|hi
  ·exact n3 i hi (h2 i hi')
  exact m2 i hi hi'
 |(.box k,τ)::r,v::vs,hb=>by
  cases τ with
  |ptr T=>
   simp only[cK,np]at hb;obtain⟨hb1,hb2⟩:=hb;obtain⟨h0,h1,h2,h3⟩:=nc (ins:=r) (vs:=vs) hb2;split at hb1
   ·rename_i id;split at hb1
    ·rename_i l hl;have e:bB ((.box k,.ptr T)::r) (.av (.ptr id 0)::vs)=[id]++bB r vs:=rfl;have e2:(aV G ((.box k,.ptr T)::r) (.av (.ptr id 0)::vs)).2=([id]++bR true k 0 l)++(aV G r vs).2:=by show cl true k G (.av (.ptr id 0))++_=_;simp[cl,hl]
     have e3:bz G ((.box k,.ptr T)::r) (.av (.ptr id 0)::vs)=bR true k 0 l++bz G r vs:=by simp[bz,cl,hl]
     have e4:bQ ((.box k,.ptr T)::r) (.av (.ptr id 0)::vs)=id::bQ r vs:=rfl;rw[e,e2,e3,e4];refine⟨λi hi=>?_,λi hi=>?_,λi hi=>?_,λhn=>?_⟩
     ·rcases A8.1 hi with rfl|hi
      ·simp
      simp[h0 i hi]
     ·rcases A4.1 hi with hi|hi
      ·simp at hi;simp[hi]
      simp[h1 i hi]
     ·rcases A4.1 hi with hi|hi
      ·simp[hi]
      simp[h2 i hi]
     obtain⟨n1,n2,n3⟩:=aU hn;obtain⟨n4,n5,n6⟩:=aU n1;obtain⟨m1,m2⟩:=h3 n2;refine⟨jE n4 m1 λi hi hi'=>n3 i (by simp at hi;simp[hi]) (h1 i hi'),λi hi hi'=>?_⟩;rcases A4.1 hi with hi|hi<;>rcases A4.1 hi' with hi'|hi'
     ·exact n6 i hi hi'
     ·exact n3 i (by simp at hi;simp[hi]) (h2 i hi')
     ·exact n3 i (by simp[hi']) (h1 i hi)
     exact m2 i hi hi'
    simp at hb1
   simp at hb1
  |_=>simp[cK]at hb
theorem fu{id:Nat}:∀{ins:List (Mode×Ty)} {vs:List SV} {y:(ac (aN ins)).den} {G G':Heap},am ins vs y G=some G'->id∉bB ins vs->(∃ l,G.get id=some (.box l))->∃ l,G'.get id=some (.box l)
 |[],vs,y,G,G',h,hn,hl=>by
  cases vs with
  |nil=>simp only[am,aw]at h;subst h;exact hl
  |cons=>simp[am]at h
 |(md,τ)::r,[],y,G,G',h,hn,hl=>by
  cases md<;>first|(simp[am]at h;done)|(cases τ<;>simp[am]at h)
 |(.rd,τ)::r,v::vs,y,G,G',h,hn,hl=>fu (ins:=r) (vs:=vs) (y:=y) h hn hl
 |(.take,τ)::r,v::vs,y,G,G',h,hn,hl=>by obtain⟨_,h'⟩:=ff h;have e:bB ((.take,τ)::r) (v::vs)=bJ v++bB r vs:=rfl;rw[e]at hn;simp only[A4,not_or]at hn;refine fu (ins:=r) h' hn.2 ?_;obtain⟨l,hl⟩:=hl;exact⟨l,by rw[bf _ _ id hn.1];exact hl⟩
 |(.upd,τ)::r,v::vs,y,G,G',h,hn,hl=>by
  cases τ with
  |slice e=>
   have e:bB ((.upd,.slice e)::r) (v::vs)=bJ v++bB r vs:=rfl;rw[e]at hn;simp only[A4,not_or]at hn;rcases fM h with⟨⟨_,rfl⟩,h'⟩|⟨i,rfl,h'⟩
   ·exact fu (ins:=r) h' hn.2 hl
   refine fu (ins:=r) h' hn.2 ?_;obtain⟨l,hl⟩:=hl;refine⟨l,?_⟩;rw[Heap.get_cons,if_neg (by have:=hn.1;simp[bJ,atomIds]at this;exactλe=>this e.symm)];exact hl
  |_=>simp[am]at h
 |(.box k,τ)::r,v::vs,y,G,G',h,hn,hl=>by
  cases τ with
  |ptr T=>
   simp only[am]at h;split at h
   ·rename_i i;have e:bB ((.box k,.ptr T)::r) (.av (.ptr i 0)::vs)=i::bB r vs:=rfl;rw[e]at hn;simp only[A8,not_or]at hn;refine fu (ins:=r) h hn.2 ?_;obtain⟨l,hl⟩:=hl;exact⟨l,by rw[Heap.get_cons,if_neg (λe=>hn.1 e.symm)];exact hl⟩
   simp at h
  |_=>simp[am]at h
theorem i9:∀{ins:List (Mode×Ty)} {vs:List SV} {y:(ac (aN ins)).den} {G G':Heap},am ins vs y G=some G'->aH (bB ins vs)=true->∀ id∈bQ ins vs,∃ l,G'.get id=some (.box l)
 |[],vs,y,G,G',h,hn,id,hid=>by cases vs<;>simp[bQ]at hid
 |(md,τ)::r,[],y,G,G',h,hn,id,hid=>by cases md<;>simp[bQ]at hid
 |(.rd,τ)::r,v::vs,y,G,G',h,hn,id,hid=>i9 (ins:=r) (vs:=vs) (y:=y) h hn id hid
 |(.take,τ)::r,v::vs,y,G,G',h,hn,id,hid=>by obtain⟨_,h'⟩:=ff h;exact i9 (ins:=r) h' (aU (show aH (bJ v++bB r vs)=true from hn)).2.1 id hid
 |(.upd,τ)::r,v::vs,y,G,G',h,hn,id,hid=>by
  cases τ with
  |slice e=>
   have hn2:=(aU (show aH (bJ v++bB r vs)=true from hn)).2.1;rcases fM h with⟨⟨_,rfl⟩,h'⟩|⟨i,rfl,h'⟩
   ·exact i9 (ins:=r) h' hn2 id hid
   exact i9 (ins:=r) h' hn2 id hid
  |_=>simp[am]at h
 |(.box k,τ)::r,v::vs,y,G,G',h,hn,id,hid=>by
  cases τ with
  |ptr T=>
   simp only[am]at h;split at h
   ·rename_i i;obtain⟨n1,n2⟩:=dM (show aH (i::bB r vs)=true from hn);rcases A8.1 (show id∈i::bQ r vs from hid)with rfl|hid
    ·exact fu (ins:=r) h n1 ⟨_,by rw[Heap.get_cons,if_pos rfl]⟩
    exact i9 (ins:=r) h n2 id hid
   simp at h
  |_=>simp[am]at h
theorem kV{w':World}{F1:Nat->Prop}{G1:Heap}:∀{ins:List (Mode×Ty)} {vs:List SV} {us ts us':List Value},Rel2 (RelSV m) us vs->us=ts.map aP->ku ins ts us'->cK m.G ins vs=true->(∀ id∈bQ ins vs,∃ l,G1.get id=some (.box l))->BoxLive ⟨w',F1,m.ι,G1⟩ ins us' vs
 |[],vs,us,ts,us',_,_,_,_,_=>by cases us'<;>cases vs<;>trivial
 |(md,τ)::r,[],us,ts,us',_,_,_,_,_=>by cases md<;>cases us'<;>trivial
 |(md,τ)::r,v::vs,us,ts,[],_,_,_,_,_=>by cases md<;>trivial
 |(md,τ)::r,v::vs,[],ts,u'::us',h,_,_,_,_=>h.elim
 |(md,τ)::r,v::vs,u::us,[],u'::us',_,h,_,_,_=>by simp at h
 |(md,τ)::r,v::vs,u::us,t::ts,u'::us',hr,ht,hs,hb,hl=>by
  simp only[JA,KJ]at ht;obtain⟨ht1,ht2⟩:=ht;cases md with
  |rd=>exact kV (ins:=r) hr.2 ht2 hs.2 hb hl
  |upd=>exact kV (ins:=r) hr.2 ht2 hs.2 hb hl
  |take=>exact kV (ins:=r) hr.2 ht2 hs.2 hb hl
  |box k=>
   cases τ with
   |ptr T=>
    simp only[cK,np]at hb;obtain⟨hb1,hb2⟩:=hb;split at hb1
    ·rename_i id;split at hb1
     ·rename_i l hg;have e4:bQ ((.box k,.ptr T)::r) (.av (.ptr id 0)::vs)=id::bQ r vs:=rfl;rw[e4]at hl;refine⟨?_,kV (ins:=r) hr.2 ht2 hs.2 hb2 λi hi=>hl i (by simp[hi])⟩;intro i o he;simp only[SV.av.injEq,Atom.ptr.injEq]at he;obtain⟨rfl,rfl⟩:=he;obtain⟨l',hl'⟩:=hl id (by simp);refine⟨l',hl',?_⟩;obtain⟨_,ob,hob,hv⟩:=(ao (a:=.ptr id 0) (by intros;simp)).1 hr.1;rw[hg]at hob;simp only[aw]at hob;subst hob;obtain⟨b,hι,hu⟩:=hv;show m.ι id=aP u';rw[hs.1,<- ht1,hu,hι]
     simp at hb1
    simp at hb1
   |_=>simp[cK]at hb
theorem eK{l r:List Nat}(h:eU l r=true){i:Nat}(h1:i∈l)(h2:i∈r):False:=by simp only[eU,Jw,List.any_eq_false]at h;have:=h i h1;rw[KM]at this;exact this ⟨i,h2,KP i⟩
theorem zM (hi:Inv C w0 M m)(hC:∀ f site c,C.con f site=some c->c.Holds P C.glob f){site f:Nat}{vs:List SV}{us:List Value}{dst:Option Nat}(hr:Rel2 (RelSV m) us vs)(hG:m.G=s.G)
  (h:jH C s site f vs (λv s'=>some (ag dst v s'))=some s'):Goes P f us.toArray m.w (Res C w0 M m s s' dst):=by
 unfold jH at h;rw[<- hG]at h;split at h
 ·rename_i c hc;split at h
  ·rename_i x hx;obtain⟨r,hfn,h⟩:=A6.1 h;obtain⟨ro,hro⟩:∃ ro:(ac (c.outs.map (·.2))).den×(ac (aN c.ins)).den,ef (c.outs.map (·.2)) (aN c.ins) r=ro:=⟨_,rfl⟩;rw[hro]at h;cases hchk:(aH (aV m.G c.ins vs).2&&eU (aV m.G c.ins vs).1 (aV m.G c.ins vs).2&&cK m.G c.ins vs)with
   |false=>rw[hchk]at h;simp at h
   |true=>
    rw[hchk]at h;simp only[UA]at h;simp only[np]at hchk;obtain⟨⟨hnd,hap⟩,hbx⟩:=hchk;split at h
    ·rename_i G' hG';split at h
     ·rename_i q hq;split at h
      ·rename_i G2 hG2;simp only[aw]at h;obtain⟨ts,t0,r1,r2,r4⟩:=kG hi (F:=Thru m (aV m.G c.ins vs).1) hx hr hG' hbx hnd (λb hb=>hb);have blkF:∀ id o b,m.G.get id=some o->isObj o=true->HB (m.ι id) b->id∉(aV m.G c.ins vs).1->¬Thru m (aV m.G c.ins vs).1 b:=by
        rintro id o b h1 h2 h3 hn (hb|⟨id',hid',o',k1,k2,k3⟩)
        ·exact(hi.own id o b h1 h2 h3).2.1 hb
        have:=hi.inj id id' o o' b h1 h2 k1 k2 h3 k3;subst this;exact hn hid'
       have hpre:Pre C.glob m.w (Thru m (aV m.G c.ins vs).1) c.ins ts x:=by
        refine⟨r1,?_,r2.2 hnd,?_,λg τ x hg=>(hi.glob g τ x hg).mono λb hb=>⟨.inl hb,rfl⟩⟩
        ·intro u hu b hb;obtain⟨id,o,k1,k2,k3,k4⟩:=r2.1 b ⟨u,hu,hb⟩;exact⟨blkF id o b k2 k3 k4 (λhn=>eK hap hn k1),(hi.own id o b k2 k3 k4).2.2⟩
        rintro b (hb|⟨id',hid',o',k1,k2,k3⟩)
        ·exact hi.fro b hb
        exact(hi.own id' o' b k1 k2 k3).2.2
       rw[t0];refine Goes.mono (hC f site c hc m.w _ ts x r hpre hfn) ?_;rintro v w' ⟨us',F2,css,hsame,hp⟩;have hpr:OutsRd w' F2 c.deep c.outs css ro.1:=by rw[<- hro];exact hp.res
       have hpm:MutsRd w' F2 c.ins us' ro.2:=by rw[<- hro];exact hp.muts
       obtain⟨d0,d1,d2,d3⟩:=nc hbx;obtain⟨d4,d5⟩:=d3 hnd;obtain⟨F1,G1,S,hA,hF,hFlt,hnF,hS2,hres,hmuts,hF12,hG1,hbnd,hlive⟩ : ∃(F1:Nat->Prop) (G1:Heap) (S:List Nat),Aft m w' F1 (cT c.ins us') G1 S/\(∀ b,m.F b->F1 b)/\(∀ b,F1 b->b < w'.heap.size) /\
         (∀ id o b,G1.get id=some o->isObj o=true->HB (m.ι id) b->¬F1 b)/\(∀ i∈(aV m.G c.ins vs).2,i∈S)/\OutsRd w' F1 c.deep c.outs css ro.1 /\
         MutsRd w' F1 c.ins us' ro.2/\(∀ b,F1 b->F2 b) /\
         G1=cond (na c) (aq (bz m.G c.ins vs) G') (aq (aV m.G c.ins vs).1 (aq (bz m.G c.ins vs) G'))/\(∀ b,F1 b->M.rd b\/M.wr b\/w0.heap.size<=b) /\
         ∀ id∈bQ c.ins vs,∃ l,G1.get id=some (.box l):=by
        have hA0:∀ F1,Aft m w' F1 (cT c.ins us') m.G []:=λF1=>⟨λid o h1 h2=>.inl ⟨by simp,h1⟩,λid o h1=>⟨o,h1,.inr (Alike.refl o)⟩⟩;have live1:∀ id∈bQ c.ins vs,∃ l,(aq (bz m.G c.ins vs) G').get id=some (.box l):=by intro id hid;obtain⟨l,hl⟩:=i9 hG' d4 id hid;exact⟨l,by rw[bf _ _ id (d5 id (d0 id hid))];exact hl⟩
        cases hfl:na c with
        |true=>
         have hfl':=hfl;simp only[na,np]at hfl';have hmf:=hpm.flat (F':=m.F) hfl'.2;have hA:=(fv hi hx hr t0 hsame hmf (λu hu=>hu) hbx hG' (hA0 m.F)).kills (bz m.G c.ins vs);rw[Kw]at hA;refine⟨m.F,_,_,hA,λb hb=>hb,λb hb=>JQ (hi.fro b hb) hp.kept.size,?_,λi hi=>A4.2 (eG hbx i hi),hpr.flat hfl'.1,hmf,λb hb=>hp.fro b (.inl hb),rfl,hi.bnd,live1⟩;intro id o b h1 h2 h3;rcases hA.old id o h1 h2 with⟨_,k⟩|⟨o0,k,k',_⟩
         ·exact(hi.own id o b k h2 h3).2.1
         exact(hi.own id _ b k k' h3).2.1
        |false=>
         have hA:=((fv hi hx hr t0 hsame hpm (λu hu=>hu) hbx hG' (hA0 F2)).kills (bz m.G c.ins vs)).kills (aV m.G c.ins vs).1;rw[Kw]at hA;refine⟨F2,_,_,hA,λb hb=>hp.fro b (.inl hb),λb hb=>(hp.f2 b hb).1,?_,λi hi=>A4.2 (.inl (A4.2 (eG hbx i hi))),hpr,hpm,λb hb=>hb,rfl,?_,?_⟩
         rotate_left
         ·have ofOwn {b:Nat} (h:w0.heap.size<=b\/M b):M.rd b\/M.wr b\/w0.heap.size<=b:=by
           rcases h with h|h
           ·exact .inr (.inr h)
           exact .inr (.inl h)
          intro b hb;rcases(hp.f2 b hb).2 with(h|⟨id,_,o,j1,j2,j3⟩)|h|h
          ·exact hi.bnd b h
          ·exact ofOwn (hi.own id o b j1 j2 j3).1
          ·obtain⟨id,o,j1,j2,j3,j4⟩:=r2.1 b h;exact ofOwn (hi.own id o b j2 j3 j4).1
          have:=hi.kept.size;exact .inr (.inr (by omega))
         ·intro id hid;obtain⟨l,hl⟩:=live1 id hid;exact⟨l,by rw[bf _ _ id (λhn=>eK hap hn (d1 id (d0 id hid)))];exact hl⟩
         intro id o b h1 h2 h3 hF2;rcases hA.old id o h1 h2 with⟨k0,k⟩|⟨o0,k,_,_,_,k2⟩
         ·simp only[A4,not_or]at k0;rcases(hp.f2 b hF2).2 with hb|hb|hb
          ·exact blkF id o b k h2 h3 k0.2 hb
          ·obtain⟨id',o',j1,j2,j3,j4⟩:=r2.1 b hb;have:=hi.inj id id' o o' b k h2 j2 j3 h3 j4;subst this;rcases eG hbx id j1 with j1|j1
           ·exact k0.1.1 j1
           exact k0.1.2 j1
          have:=(hi.own id o b k h2 h3).2.2;omega
         obtain⟨u,hu,hub⟩:=fB hpm (k2 b h3);exact(hp.own u (by simp[hu]) b hub).2.1 hF2
       have hMc:∀ b,cL (az c.ins ts) b->∃ id o,id∈S/\m.G.get id=some o/\isObj o=true/\HB (m.ι id) b:=by intro b hb;obtain⟨id,o,k1,k2⟩:=r2.1 b hb;exact⟨id,o,hS2 id k1,k2⟩
       obtain⟨i1,i2⟩:=B0 hi hA hp.kept hMc hF hFlt hnF hbnd;obtain⟨ap1,ap2,ap3⟩:=Kh.1 hp.apart;have hfree1:∀ u∈bS c.outs css++ba c.ins us',∀ b,HB u b->(¬cL (cT c.ins us') b)->(w0.heap.size<=b\/M b)/\¬F1 b/\b<w'.heap.size/\∀ id o,G1.get id=some o->isObj o=true->¬HB (m.ι id) b:=by
        intro u hu b hb hno;obtain⟨k1,k2,k3⟩:=hp.own u hu b hb;refine⟨?_,λhb'=>k2 (hF12 b hb'),k3,λid o ho hob hbl=>?_⟩
        ·rcases k1 with k1|k1
         ·have:=hi.kept.size;exact .inl (by omega)
         obtain⟨id,o,j1,j2,j3,j4⟩:=r2.1 b k1;exact(hi.own id o b j2 j3 j4).1
        rcases hA.old id o ho hob with⟨j0,j⟩|⟨o0,j,_,_,_,j2⟩
        ·rcases k1 with k1|k1
         ·have:=(hi.own id o b j hob hbl).2.2;omega
         obtain⟨id',o',l1,l2,l3,l4⟩:=hMc b k1;have:=hi.inj id id' o o' b j hob l2 l3 hbl l4;subst this;exact j0 l1
        exact hno (j2 b hbl)
       have hfree:∀ u∈bS c.outs css,cM w0 M ⟨w',F1,m.ι,G1⟩ u:=λu hu b hb=>hfree1 u (by simp[hu]) b hb (λha=>by
        obtain⟨u2,hu2,hb2⟩:=fB hmuts ha;exact ap3 u hu u2 hu2 b hb hb2)
       have hfree2:∀ u∈ba c.ins us',cM w0 M ⟨w',F1,m.ι,G1⟩ (.tuple (fa u).tail.toArray):=λu hu b hb=>hfree1 u (by simp[hu]) b (gu hb) (fX hmuts ap2 u hu b hb);obtain⟨m',a1,a2,a3,a4,a5,a6,a7,a8⟩:=lT (m:=⟨w',F1,m.ι,G1⟩) (q:=q.1) (G':=q.2) i1 (by rw[show Mem.G ⟨w',F1,m.ι,G1⟩=G1 from rfl,hG1];exact hq) hres ap1 hfree;obtain⟨m2,b1,b2,b3,b4,b5⟩:=dC (m:=m') (us:=us') a4 (by rw[a3];exact hG2) (by rw[a1,a2];exact hmuts) ((kV hr t0 hsame hbx hlive).mono λid l hg=>⟨⟨l,(a8 id _ hg).1⟩,(a8 id _ hg).2⟩) ap2
        (λu hu=>a7 _ (hfree2 u hu) λb hb ⟨u2,hu2,hb2⟩=>ap3 u2 hu2 u hu b hb2 (gu hb))
       refine⟨m2,th q.1,b1.trans a1,by rw[<- h,b3],b4,(i2.trans a5).trans b5,?_⟩;rw[hp.val];exact fm b5 (Eo a6)
      simp at h
     simp at h
    simp at h
  simp at h
 simp at h
theorem mC (site:Nat):∀{ins:List (Mode×Ty)} {vs:List SV} {us:List Value} {m:Mem},Inv C w0 M m->Rel2 (RelSV m) us vs ->
  ∃ m1,m1.w=m.w/\m1.F=m.F/\m1.G=(ct site ins vs m.G).2/\Inv C w0 M m1/\Evo m m1/\Rel2 (RelSV m1) us (ct site ins vs m.G).1
 |[],vs,us,m,hi,hr=>⟨m,rfl,rfl,by cases vs<;>rfl,hi,Evo.refl m,by cases vs<;>exact hr⟩
 |p::r,[],us,m,hi,hr=>by obtain⟨md,τ⟩:=p;cases md<;>exact⟨m,rfl,rfl,rfl,hi,Evo.refl m,hr⟩
 |(md,τ)::r,v::vs,[],m,hi,hr=>hr.elim
 |(md,τ)::r,v::vs,u::us,m,hi,hr=>by
  have keep:∃ m1,m1.w=m.w/\m1.F=m.F/\m1.G=(ct site r vs m.G).2/\Inv C w0 M m1/\Evo m m1/\Rel2 (RelSV m1) (u::us) (v::(ct site r vs m.G).1):=by obtain⟨m1,a1,a2,a3,a4,a5,a6⟩:=mC site (ins:=r) hi hr.2;exact⟨m1,a1,a2,a3,a4,a5,fm a5 hr.1,a6⟩
  cases md with
  |rd=>exact keep
  |upd=>exact keep
  |box k=>exact keep
  |take=>obtain⟨m1,a1,a2,a3,a4,a5,a6⟩:=rp hi site hr.1;have hr2:Rel2 (RelSV m1) us vs:=hr.2.mono λ_ _ h=>fm a5 h;obtain⟨m2,b1,b2,b3,b4,b5,b6⟩:=mC site (ins:=r) a4 hr2;rw[a3]at b3 b6;exact⟨m2,b1.trans a1,b2.trans a2,b3,b4,a5.trans b5,fm b5 a6,b6⟩
def km(P:Program)(glob:List (Nat×(Σ t:Ty,t.den)))(f:FuncId)(r:Heap->List SV->Option (SV×Heap)):Prop:=
 ∀(C:Ctx) (w0:World) (M:Own) (m:Mem) (us:List Value) (vs:List SV) (sv:SV) (X:Heap),C.glob=glob->Inv C w0 M m->Rel2 (RelSV m) us vs->r m.G vs=some (sv,X) ->
  Goes P f us.toArray m.w λv w'=>∃ m',m'.w=w'/\m'.G=X++m.G/\Inv C w0 M m'/\Evo m m'/\RelSV m' v sv
theorem qv (hi:Inv C w0 M m)(hC:∀ f site c,C.con f site=some c->c.Holds P C.glob f)(hI:∀ f r,C.inl f=some r->km P C.glob f r){site f:Nat}{vs:List SV}{us:List Value}{dst:Option Nat}(hr:Rel2 (RelSV m) us vs)(hG:m.G=s.G)
  (h:eJ C s site f vs (λv s'=>some (ag dst v s'))=some s'):Goes P f us.toArray m.w (Res C w0 M m s s' dst):=by
 unfold eJ at h;split at h
 ·rename_i r hin;cases hp:sQ s.G vs with
  |false=>rw[hp]at h;cases h
  |true=>rw[hp]at h;obtain⟨⟨sv,X⟩,h1,h2⟩:=A6.1 h;have h2:=B7 h2;refine(hI f r hin C w0 M m us vs sv X rfl hi hr (by rw[hG];exact h1)).mono λv w' hR=>?_;obtain⟨m',k1,k2,k3,k4,k5⟩:=hR;exact⟨m',sv,k1,by rw[k2,hG];exact h2.symm,k3,k4,k5⟩
 split at h
 ·rename_i c hc;obtain⟨m1,a1,a2,a3,a4,a5,a6⟩:=mC site (ins:=c.ins) hi hr;rw[<- hG,<- a3]at h;have:=zM (s:=⟨s.env,m1.G⟩) (s':=s') (dst:=dst) a4 hC (f:=f) a6 rfl (by rw[hG]at h ⊢;exact h);rw[a1]at this;refine this.mono λv w' hR=>?_;obtain⟨m',sv,k1,k2,k3,k4,k5⟩:=hR;exact⟨m',sv,k1,k2,k3,a5.trans k4,k5⟩
 simp at h
end
end Go.Vm

/-
 The machine's operations against the model's: every operation.
-/
namespace Go.Vm
section
variable {P:Program}{C:Ctx}{w0:World}{M:Own}{o:Oper}{a:Act}{m:Mem}{s s':St}
theorem Rel2.map_left{α β γ:Type}{r:β->γ->Prop}{f:α->β}{g:α->γ}:∀(l:List α),(∀ x,r (f x) (g x))->Rel2 r (l.map f) (l.map g)
 |[],_=>trivial
 |x::l,h=>⟨h x,Rel2.map_left l h⟩
theorem oI{G:Heap}:∀{ins:List (Mode×Ty)} {vs:List SV} {x:(ac (ins.map (·.2))).den},dG G ins vs=some x->∀ v∈vs,∃ τ,∃ y:τ.den,aR G τ v=some y
 |[],[],_,_=>by simp
 |[],_::_,_,h=>by simp[dG]at h
 |_::_,[],_,h=>by simp[dG]at h
 |p::r,v::vs,x,h=>by
  unfold dG at h;split at h
  ·rename_i x1 hx1;split at h
   ·rename_i x2 hx2;intro v' hv';rcases A8.1 hv' with rfl|hv'
    ·exact⟨p.2,x1,hx1⟩
    exact oI hx2 v' hv'
   simp at h
  simp at h
theorem xW:∀{us:List Value} {caps:List Nat},Rel2 (fun u c=>∃ o,m.G.get c=some o/\(match o with
    |.box _=>∃ b,m.ι c=.pointer (some ⟨b,0,none⟩)/\u=.pointer (some ⟨b,0,none⟩)
    |.dead=>True
    |_=>False)) us caps->(∀ i∈caps,∃ l,m.G.get i=some (.box l))->Rel2 (RelSV m) us (caps.map λi=>.av (.ptr i 0))
 |[],[],_,_=>trivial
 |[],_::_,h,_=>h.elim
 |_::_,[],h,_=>h.elim
 |u::us,c::caps,h,hb=>by obtain⟨l,hl⟩:=hb c (by simp);obtain⟨ob,ho,hv⟩:=h.1;rw[hl]at ho;simp only[aw]at ho;subst ho;obtain⟨b,h1,rfl⟩:=hv;exact⟨(ao (a:=.ptr c 0) (by intros;simp)).2 ⟨rfl,_,hl,b,h1,rfl⟩,xW h.2 λi hi=>hb i (by simp[hi])⟩
theorem pk:∀{τ:Ty} {y:τ.den} {us:List Value} {l:List SV},Rd m.w m.F τ us y->ce τ y=some l->Rel2 (RelSV m) us l
 |.prod (.ptr a) b,y,us,l,h,hl=>by
  simp only[ce]at hl;split at hl
  ·rename_i l' hl';simp only[aw]at hl;subst hl;obtain⟨c1,c2,rfl,h1,h2⟩:=h;have h1':=h1;obtain⟨bb,off,c,el,fz,rfl,_⟩:=h1;exact⟨⟨_,rfl,h1'⟩,pk h2 hl'⟩
  simp at hl
 |.unit,_,us,l,h,hl=>by simp only[ce,aw]at hl;subst hl;unfold Rd at h;subst h;trivial
 |.prod (.int _) _,_,_,_,_,hl=>by simp[ce]at hl
 |.prod .bool _,_,_,_,_,hl=>by simp[ce]at hl
 |.prod .str _,_,_,_,_,hl=>by simp[ce]at hl
 |.prod (.slice _) _,_,_,_,_,hl=>by simp[ce]at hl
 |.prod (.prod _ _) _,_,_,_,_,hl=>by simp[ce]at hl
 |.prod .unit _,_,_,_,_,hl=>by simp[ce]at hl
 |.prod (.arr _ _) _,_,_,_,_,hl=>by simp[ce]at hl
 |.prod (.clo _ _) _,_,_,_,_,hl=>by simp[ce]at hl
 |.int _,_,_,_,_,hl=>by simp[ce]at hl
 |.bool,_,_,_,_,hl=>by simp[ce]at hl
 |.str,_,_,_,_,hl=>by simp[ce]at hl
 |.slice _,_,_,_,_,hl=>by simp[ce]at hl
 |.arr _ _,_,_,_,_,hl=>by simp[ce]at hl
 |.ptr _,_,_,_,_,hl=>by simp[ce]at hl
 |.clo _ _,_,_,_,_,hl=>by simp[ce]at hl
theorem tD{site:Nat}{G:Heap}{v:SV}{i:Nat}{l:List Atom}(h:(bD site G v).2.get i=some (.box l)):G.get i=some (.box l):=by
 unfold bD at h;split at h
 ·split at h
  ·rename_i ver' σ l' hg;cases hc:(A7 _ ver' && !G.has (ar 64 G site))with
   |false=>rw[hc]at h;exact h
   |true=>
    rw[hc]at h;simp only[UA]at h;rw[Heap.get_cons,Heap.get_cons]at h;split at h
    ·simp at h
    split at h
    ·simp at h
    exact h
  exact h
 exact h
theorem ee{site:Nat}{i:Nat}{l:List Atom}:∀{ins:List (Mode×Ty)} {vs:List SV} {G:Heap},(ct site ins vs G).2.get i=some (.box l)->G.get i=some (.box l)
 |[],vs,G,h=>by cases vs<;>exact h
 |(md,_)::_,[],G,h=>by cases md<;>exact h
 |(.rd,_)::r,v::vs,G,h=>ee (ins:=r) (vs:=vs) h
 |(.upd,_)::r,v::vs,G,h=>ee (ins:=r) (vs:=vs) h
 |(.box _,_)::r,v::vs,G,h=>ee (ins:=r) (vs:=vs) h
 |(.take,_)::r,v::vs,G,h=>tD (ee (ins:=r) (vs:=vs) h)
theorem eu{site:Nat}{i j:Nat}:∀{ins:List (Mode×Ty)} {vs:List SV} {G:Heap},SV.av (.ptr i j)∈vs->SV.av (.ptr i j)∈(ct site ins vs G).1
 |[],vs,G,h=>by cases vs<;>exact h
 |(md,_)::_,[],G,h=>by cases h
 |(.rd,_)::r,v::vs,G,h=>by
  rcases A8.1 h with h|h
  ·exact A8.2 (.inl h)
  exact A8.2 (.inr (eu (ins:=r) (vs:=vs) h))
 |(.upd,_)::r,v::vs,G,h=>by
  rcases A8.1 h with h|h
  ·exact A8.2 (.inl h)
  exact A8.2 (.inr (eu (ins:=r) (vs:=vs) h))
 |(.box _,_)::r,v::vs,G,h=>by
  rcases A8.1 h with h|h
  ·exact A8.2 (.inl h)
  exact A8.2 (.inr (eu (ins:=r) (vs:=vs) h))
 |(.take,_)::r,v::vs,G,h=>by
  rcases A8.1 h with h|h
  ·subst h;exact A8.2 (.inl rfl)
  exact A8.2 (.inr (eu (ins:=r) (vs:=vs) h))
theorem sC{site f:Nat}{vs:List SV}{K:SV->St->Option St}(h:eJ C s site f vs K=some s'):∀ i j,SV.av (.ptr i j)∈vs->∃ l,s.G.get i=some (.box l):=by
 intro i j hij;unfold eJ at h;split at h
 ·cases hp:sQ s.G vs with
  |false=>rw[hp]at h;cases h
  |true=>
   unfold sQ at hp;rw[B5]at hp;have:=hp _ hij;dsimp only at this;split at this
   ·rename_i l hl;exact⟨l,hl⟩
   cases this
 split at h
 ·rename_i c hc;unfold jH at h;split at h
  ·rename_i c' hc';rw[hc]at hc';cases hc';split at h
   ·rename_i x hx;obtain⟨τ,y,hy⟩:=oI hx _ (eu (site:=site) (ins:=c.ins) (G:=s.G) hij);cases τ<;>simp only[aR]at hy<;>try (simp at hy;done)
    unfold dQ at hy;split at hy
    ·rename_i l hl;exact⟨l,ee hl⟩
    simp at hy
   simp at h
  simp at h
 simp at h
theorem rj {g:Operand}{args:Array Operand}{ats:Array TypeId}{f:FuncId}{vs:List Value}{R:Value->World->Prop}(ho:o.op=.call { callee:=.value g,args,argTypes:=ats })(hg:a.eval g=.func (.func f) #[] vs.toArray)
  (h:Goes P f (args.toList.map a.eval++vs).toArray m.w R):Does P o a m.w R:=by
 have e:(args.toList.map a.eval++vs).toArray=(#[]++LC a.eval args)++vs.toArray:=by apply LJ;simp
 rw[e]at h;have hx:(execOp a.eval o).run P m.w=(callFunc f ((#[]++LC a.eval args)++vs.toArray)).run P m.w:=by simp[execOp,ho,resolve,hg,Deferred.ofValue,invoke]
 rcases h with⟨h1,h2⟩|⟨v,w',h1,h2⟩
 ·exact Does.call (by rw[hx,h1]) h2
 exact Does.value (by rw[hx,h1]) h2
theorem BP {g:Operand}{args:Array Operand}{ats:Array TypeId}{f:FuncId}{r:Value}{R:Value->World->Prop}(ho:o.op=.call { callee:=.value g,args,argTypes:=ats })(hg:a.eval g=.func (.func f) #[r] #[])
  (h:Goes P f (r::args.toList.map a.eval).toArray m.w R):Does P o a m.w R:=by
 have e:(r::args.toList.map a.eval).toArray=(#[r]++LC a.eval args)++#[]:=by apply LJ;simp
 rw[e]at h;have hx:(execOp a.eval o).run P m.w=(callFunc f ((#[r]++LC a.eval args)++#[])).run P m.w:=by simp[execOp,ho,resolve,hg,Deferred.ofValue,invoke]
 rcases h with⟨h1,h2⟩|⟨v,w',h1,h2⟩
 ·exact Does.call (by rw[hx,h1]) h2
 exact Does.value (by rw[hx,h1]) h2
theorem rN:∀{us:List Value} {q:List (Σ t:Ty,t.den)},Rel2 (λu (p:Σ t:Ty,t.den)=>Rd m.w m.F p.1 [u] p.2/\p.1.isAgg=false) us q->Rel2 (ai m) us (q.map λp=>Atom.val p.1 p.2)
 |[],[],_=>trivial
 |_::_,_::_,h=>⟨h.1,rN h.2⟩
theorem Ac {g:Operand}{args:Array Operand}{ats:Array TypeId}(hC:∀ f site c,C.con f site=some c->c.Holds P C.glob f)(hI:∀ f r,C.inl f=some r->km P C.glob f r)(hi:Inv C w0 M m)(hG:m.G=s.G)(hS:∀ x,RelSV m (a.eval x) (ah C s.env x))
  (ho:o.op=.call { callee:=.value g,args,argTypes:=ats }) (h:aZ C o s some=some s'):Does P o a m.w (Res C w0 M m s s' o.dst):=by
 simp only[au,aK,ho]at h;have hg:=hS g;have hargs:Rel2 (RelSV m) (args.toList.map a.eval) (args.toList.map (ah C s.env)):=Rel2.map_left _ hS;split at h
 ·rename_i f caps hq;rw[hq]at hg;obtain⟨vs,hgv,hc⟩:=hg;have hb:=sC h;refine rj ho hgv (qv hi hC hI (hargs.append (xW hc λi hi'=>?_)) hG h);rw[hG];exact hb i 0 (by simp only[A4,KW];exact .inr ⟨i,hi',rfl⟩)
 ·rename_i f q hq;rw[hq]at hg;obtain⟨us,hgv,h1,h2⟩:=hg;exact BP ho hgv (qv hi hC hI (show Rel2 (RelSV m) (Value.agg us.toArray::args.toList.map a.eval) (SV.agg (q.map λp=>Atom.val p.1 p.2)::args.toList.map (ah C s.env))from⟨⟨us,rfl,h1,rN h2⟩,hargs⟩) hG h)
 ·rename_i f τ y hq;rw[hq]at hg;split at h
  ·rename_i l hl;obtain⟨cs,hgv,vs,rfl,hrd⟩:=hg;exact rj ho hgv (qv hi hC hI (hargs.append (pk hrd hl)) hG h)
  simp at h
 simp at h
theorem BD {R:Type}{r:R}{K:St->Option R}(hT:cb P C.tab=true)(hE:Ew P C)(hM:nh P C)(hC:∀ f site c,C.con f site=some c->c.Holds P C.glob f)(hI:∀ f r,C.inl f=some r->km P C.glob f r)(hi:Inv C w0 M m)(hG:m.G=s.G)(hS:∀ x,RelSV m (a.eval x) (ah C s.env x))
  (h:aZ C o s K=some r):Does P o a m.w (CA C w0 M m s o.dst K r):=by
 by_cases hb:∀ op xt x y yt,o.op≠.binOp op xt x y yt
 ·rw[lr hb]at h;obtain⟨s',h,hK⟩:=A6.1 h;have wrap:Does P o a m.w (Res C w0 M m s s' o.dst)->Does P o a m.w (CA C w0 M m s o.dst K r):=λhd K' Q hK'=>hd K' Q λv w' hv=>hK' v w' ⟨s',hK,hv⟩;refine wrap ?_;cases ho:o.op with
  |move x=>exact x6 hi hG hS (.inl ho) h
  |assign x=>exact x6 hi hG hS (.inr ho) h
  |pick c x y=>exact Es hi hG hS ho h
  |alloc t=>exact zX hT hi hG ho h
  |box t x=>exact Hn hi hG hS ho h
  |build t ps=>exact Bp hT hi hG hS ho h
  |buildSlice t n ps=>exact qG hT hi hG hS ho h
  |load t x=>exact Fa hT hi hG hS ho h
  |store t x y=>exact Cv hT hi hG hS ho h
  |nilCheck x=>exact ul hi hG hS ho h
  |binOp op xt x y yt=>exact absurd ho (hb _ _ _ _ _)
  |unOp op t x=>exact En hi hG hS ho h
  |convert t u x=>exact u6 hT hi hG hS ho h
  |makeSlice t n c=>exact s7 hT hi hG hS ho h
  |slice t x lo hi' mx=>exact Be hT hi hG hS ho h
  |fieldAddr t x f=>exact ta hT hi hG hS ho h
  |field t x f=>exact BV hT hi hG hS ho h
  |indexAddr t x i=>exact rV hT hi hG hS ho h
  |index t x i=>exact AH hT hi hG hS ho h
  |extract x i=>exact ww hi hG hS ho h
  |makeFunc fn first caps=>exact uy hi hG hS ho h
  |makeMap t res=>
   cases res with
   |none=>exact vg hM hi hG ho h
   |some _=>simp[au,aK,ho]at h
  |range t x=>exact Ck hT hi hG hS ho h
  |next x str=>exact E5 hi hG hS ho h
  |lookup t x ix ok=>exact zI hM hi hG hS ho h
  |mapUpdate t x ix y=>exact sB hM hi hG hS ho h
  |call c=>
   obtain⟨callee,args,ats⟩:=c;cases callee with
   |value g=>exact Ac hC hI hi hG hS ho h
   |builtin b=>
    cases b with
    |len=>exact Gp hT hM hi hG hS ho h
    |cap=>exact GD hT hi hG hS ho h
    |min=>exact Gk hi hG hS ho h
    |max=>exact Gu hi hG hS ho h
    |append=>exact zw hT hi hG hS ho h
    |clear=>exact Dz hT hi hG hS ho h
    |copy=>exact EN hT hi hG hS ho h
    |_=>simp[au,aK,ho]at h
   |invoke _ _=>simp[au,aK,ho]at h
  |_=>simp[au,aK,ho]at h
 simp only[Classical.not_forall,Classical.not_not]at hb;obtain⟨op,xt,x,y,yt,ho⟩:=hb;exact zV hT hE hi hG hS ho h
end
end Go.Vm

/-
 The machine's steps against the model's, in a frame: a step, what is given up, a region.
-/
namespace Go.Vm
section
variable {P:Program}{C:Ctx}{w0:World}{M:Own}{N:Nat}{o:Oper}{a:Act}{m:Mem}{s:St}
theorem uM(a:Act)(dst:Option Nat)(v:Value)(hd:∀ d,dst=some d->d<a.tmps.size)(t:Nat):(a.put dst v).tmps.getD t undef=if dst=some t then v else a.tmps.getD t undef:=by
 cases dst with
 |none=>simp[Act.put]
 |some d=>
  have h:=hd d rfl;by_cases e:d=t
  ·subst e;simp[Act.put,h]
  have:¬(some d=some t):=by simpa using e
  rw[if_neg this];simp[Act.put,JW,Ki,e]
theorem vY(dst:Option Nat)(sv:SV)(s:St)(t:Nat):(ag dst sv s).env.get t=if dst=some t then sv else s.env.get t:=by
 cases dst with
 |none=>simp[ag]
 |some d=>
  simp only[ag];rw[Env.get_cons];by_cases e:d=t
  ·simp[e]
  simp[e]
theorem xj {e:Env}{m':Mem}{v:Value}{sv:SV}{dst:Option Nat}{G:Heap}(hs:Sim C w0 M N a m e)(hi:Inv C w0 M m')(he:Evo m m')(hv:RelSV m' v sv)(hd:∀ d,dst=some d->d < N) :
  Sim C w0 M N (a.put dst v) m' (ag dst sv ⟨e,G⟩).env:=by
 refine⟨hi,by cases dst<;>exact hs.defers,by cases dst<;>simp[Act.put,hs.size],λt=>?_⟩;rw[uM a dst v (λd h=>JQ (hd d h) hs.size),vY];split
 ·exact hv
 exact fm he (hs.env t)
theorem Heap.get_map(f:Obj->Obj):∀(G:Heap) (i:Nat),Heap.get (G.map λp=>(p.1,f p.2)) i=(G.get i).map f
 |[],_=>rfl
 |(k,v)::r,i=>by
  simp only[JA,Heap.get_nil0,Heap.get_pair];cases A7 k i with
  |true=>rfl
  |false=>exact Heap.get_map f r i
theorem Env.get_map(f:SV->SV)(hf:f (.av .u)=.av .u):∀(e:Env) (i:Nat),Env.get (e.map λp=>(p.1,f p.2)) i=f (e.get i)
 |[],_=>hf.symm
 |(k,v)::r,i=>by
  simp only[JA,Env.get_nil0,Env.get_pair];cases A7 k i with
  |true=>rfl
  |false=>exact Env.get_map f hf r i
theorem m8(G:Heap)(ids:List Nat)(i:Nat):∀ H:Heap,(∀ p∈H,G.get p.1≠none)->Heap.get (dx G ids H++G) i=(if(∃ p∈H,p.1=i)then(G.get i).map (nY G ids)else G.get i)
 |[],_=>by simp[dx]
 |(k,v)::r,hH=>by
  have ih:=m8 G ids i r (λp hp=>hH p (Jq _ hp));have hk:(∃ p∈(k,v)::r,p.1=i)↔k=i\/∃ p∈r,p.1=i:=by simp
  unfold dx;split
  ·rename_i l hl;rw[KD,Heap.get_cons,ih];by_cases e:k=i
   ·subst e;have hl':G.get k=some (.box l):=hl;rw[if_pos rfl,if_pos (hk.2 (.inl rfl)),hl'];rfl
   rw[if_neg e];by_cases h2:∃ p∈r,p.1=i
   ·rw[if_pos h2,if_pos (hk.2 (.inr h2))]
   rw[if_neg h2,if_neg (λh=>(hk.1 h).elim e h2)]
  rename_i hl;rw[ih];by_cases h2:∃ p∈r,p.1=i
  ·rw[if_pos h2,if_pos (hk.2 (.inr h2))]
  rw[if_neg h2];by_cases e:k=i
  ·subst e;rw[if_pos (hk.2 (.inl rfl))];have hl:∀ l,G.get k=some (.box l)->False:=hl;cases hg:G.get k with
   |none=>rfl
   |some o=>cases o<;>first|exact(hl _ hg).elim|rfl
  rw[if_neg (λh=>(hk.1 h).elim e h2)]
theorem Heap.get_mem{G:Heap}{i:Nat}{o:Obj}(h:G.get i=some o):∃ p∈G,p.1=i:=by
 induction G with
 |nil=>cases h
 |cons p r ih=>
  obtain⟨k,v⟩:=p;rw[Heap.get_cons]at h;split at h
  ·rename_i e;exact⟨(k,v),JH ..,e⟩
  obtain⟨q,h1,h2⟩:=ih h;exact⟨q,Jq _ h1,h2⟩
theorem Heap.get_some{G:Heap}:∀{p:Nat×Obj},p∈G->G.get p.1≠none:=by
 induction G with
 |nil=>intro p h;cases h
 |cons q r ih=>
  intro p h;obtain⟨k,v⟩:=q;rw[Heap.get_cons];split
  ·simp
  rename_i e;rcases A8.1 h with rfl|h
  ·exact absurd rfl e
  exact ih h
theorem ye(G:Heap)(ids:List Nat)(i:Nat):Heap.get (dx G ids G++G) i=(G.get i).map (nY G ids):=by
 rw[m8 G ids i G λp hp=>Heap.get_some hp];split
 ·rfl
 rename_i h;cases hg:G.get i with
 |none=>rfl
 |some o=>exact absurd (Heap.get_mem hg) h
theorem eT:∀(ids:List Nat) (G:Heap) (i:Nat),i∈ids->(aq ids G).get i=some .dead
 |j::r,G,i,h=>by
  show(aq r ((j,.dead)::G)).get i=_;by_cases hr:i∈r
  ·exact eT r _ i hr
  rcases A8.1 h with h|h
  ·subst h;rw[bf r _ i hr,Heap.get_cons,if_pos rfl]
  exact absurd h hr
theorem gw{ids:List Nat}{i:Nat}:(ids.any λj=>A7 i j)=true↔i∈ids:=by
 rw[KM];constructor
 ·rintro⟨j,hj,h⟩;rw[A3 h];exact hj
 intro h;exact⟨i,h,KP i⟩
theorem kW(hi:Inv C w0 M m){ids:List Nat}{m1:Mem}(hw:m1.w=m.w)(he:Evo m m1)(hF:∀ b,Thru m ids b->m1.F b){u:Value}{at':Atom}(h:ai m u at'):ai m1 u (d9 m.G ids at'):=by
 have thru {i:Nat} (hin:i∈ids) {b:Nat} (hb:Thru m [i] b):m1.F b:=hF b (Thru.mono (λk hk=>by simp at hk;subst hk;exact hin) hb);cases at' with
 |own i=>
  simp only[d9];cases hin:(ids.any λj=>A7 i j)with
  |false=>exact bq he h
  |true=>
   have hin:=gw.1 hin;simp only[UA];cases hg:m.G.get i with
   |none=>exact bq he h
   |some ob=>
    cases ob with
    |arr τ l=>obtain⟨_,ob,hob,hv⟩:=h;rw[hg]at hob;simp only[aw]at hob;subst hob;have hv:=hv rfl;subst hv;exact⟨(vA hi hg).mono λb hb=>⟨thru hin hb,by rw[hw]⟩,rfl⟩
    |_=>exact bq he h
 |view i off len=>
  simp only[d9];cases hin:(ids.any λj=>A7 i j)with
  |false=>exact bq he h
  |true=>
   have hin:=gw.1 hin;simp only[UA];cases hg:m.G.get i with
   |none=>exact bq he h
   |some ob=>
    cases ob with
    |arr τ l=>
     have hr:aF m.G (.slice τ) (.view i off len)=some ((l.drop off).take len):=by simp[aF,hg,bC]
     have:=cv hi hr h;exact⟨this.mono λb hb=>⟨thru hin hb,by rw[hw]⟩,rfl⟩
    |_=>exact bq he h
 |u=>trivial
 |undef=>exact h
 |nils _=>exact h
 |val _ _=>exact bq he h
 |ptr _ _=>exact bq he h
 |aptr _ _ _=>exact bq he h
 |cut _ _ _=>exact bq he h
 |bnd _ _=>exact bq he h
 |saptr _ _ _ _=>exact bq he h
 |ownm _=>exact bq he h
 |iptr _ _ _ _ _=>exact bq he h
 |ownd i=>
  simp only[d9];cases hin:(ids.any λj=>A7 i j)with
  |false=>exact bq he h
  |true=>
   have hin:=gw.1 hin;simp only[UA];split
   ·rename_i ver τ l hg;have hr:aF m.G (.slice (.slice τ)) (.ownd i)=some l:=by simp[aF,hg,bC]
    have:=cv hi hr h;exact⟨this.mono λb hb=>⟨thru hin hb,by rw[hw]⟩,rfl⟩
   exact bq he h
 |sub i ver j=>
  simp only[d9];cases hin:(ids.any λj=>A7 i j)with
  |false=>exact bq he h
  |true=>
   have hin:=gw.1 hin;simp only[UA];split
   ·rename_i ver' τ l hg;cases hv:A7 ver ver' with
    |false=>exact bq he h
    |true=>
     simp only[UA];have hr:aF m.G (.slice τ) (.sub i ver j)=some (aJ l j):=by simp[aF,hg,bC,hv]
     have:=cv hi hr h;exact⟨this.mono λb hb=>⟨thru hin hb,by rw[hw]⟩,rfl⟩
   exact bq he h
 |clo _ _=>exact bq he h
theorem Rel2.map_right{α β:Type}{r s:α->β->Prop}{f:β->β}(h:∀ x y,r x y->s x (f y)):∀{l:List α} {k:List β},Rel2 r l k->Rel2 s l (k.map f)
 |[],[],_=>trivial
 |[],_::_,h=>h.elim
 |_::_,[],h=>h.elim
 |_::_,_::_,hh=>⟨h _ _ hh.1,Rel2.map_right h hh.2⟩
theorem GK(hi:Inv C w0 M m){ids:List Nat}{m1:Mem}(hw:m1.w=m.w)(he:Evo m m1)(hF:∀ b,Thru m ids b->m1.F b){u:Value}{sv:SV}(h:RelSV m u sv):RelSV m1 u (Av m.G ids sv):=by
 cases sv with
 |av at'=>
  cases at' with
  |val τ x=>exact fm he h
  |_=>exact RelSV.of_atom (kW hi hw he hF ((ao (by intros;simp)).1 h))
 |agg l=>obtain⟨us,h1,h2,h3⟩:=h;exact⟨us,h1,h2,Rel2.map_right (f:=d9 m.G ids) (λ_ _ h=>kW hi hw he hF h) h3⟩
 |tup l=>
  obtain⟨us,h1,h2⟩:=h;refine⟨us,h1,Rel2.map_right ?_ h2⟩;rintro v ⟨b,l⟩ hv;cases b with
  |true=>obtain⟨us,h1,h0,h2⟩:=hv;exact⟨us,h1,h0,Rel2.map_right (f:=d9 m.G ids) (λ_ _ h=>kW hi hw he hF h) h2⟩
  |false=>obtain⟨a,h1,h2⟩:=hv;simp only at h1;subst h1;exact⟨_,rfl,kW hi hw he hF h2⟩
theorem lZ(ids:List Nat)(hs:Sim C w0 M N a m s.env)(hG:m.G=s.G):∃ m',m'.w=m.w/\m'.G=(kY ids s).G/\Sim C w0 M N a m' (kY ids s).env:=by
 obtain⟨m1,a1,a2,a3,a4,a5,a6⟩:=cE ids hs.inv;have hget:∀ id o,Heap.get (aq ids (dx m.G ids m.G++m.G)) id=some o->o=.dead\/(id∉ids/\∃ o0,m.G.get id=some o0/\o=nY m.G ids o0):=by
  intro id o ho;by_cases hin:id∈ids
  ·rw[eT ids _ id hin]at ho;simp only[aw]at ho;exact .inl ho.symm
  rw[bf ids _ id hin,ye]at ho;obtain⟨o0,h1,h2⟩:=Kl.1 ho;exact .inr ⟨hin,o0,h1,h2.symm⟩
 have halike:∀ o0,Alike o0 (nY m.G ids o0):=by
  intro o0;cases o0<;>first|exact⟨rfl,rfl⟩|trivial
 have hobj:∀ o0,isObj (nY m.G ids o0)=isObj o0:=by intro o0;cases o0<;>rfl
 let m2:Mem:=⟨m1.w,m1.F,m1.ι,aq ids (dx m.G ids m.G++m.G)⟩
 have he2:Evo m m2:=by
  refine⟨a5.fro,λid o ho=>?_⟩;by_cases hin:id∈ids
  ·exact⟨.dead,eT ids _ id hin,.inl rfl⟩
  refine⟨nY m.G ids o,?_,.inr (.inl ⟨by show m1.ι id=_;rw[a2],halike o⟩)⟩;show Heap.get (aq ids _) id=_;rw[bf ids _ id hin,ye,ho];rfl
 have hi2:Inv C w0 M m2:=by
  refine⟨a4.kept,?_,?_,?_,a4.fro,λg τ x hg=>a4.glob g τ x hg,a4.bnd,bI he2 hs.inv.pin⟩
  ·intro id o ho;rcases hget id o ho with rfl|⟨hin,o0,h0,rfl⟩
   ·trivial
   have hr:=hs.inv.objs id o0 h0;cases o0 with
   |dead=>trivial
   |arr τ l=>exact bL he2 (by show m1.ι id=_;rw[a2]) (λb _=>by show m1.w.heap[b]?=_;rw[a1]) hr
   |deep ver τ l hole=>exact bL he2 (by show m1.ι id=_;rw[a2]) (λb _=>by show m1.w.heap[b]?=_;rw[a1]) hr
   |map k v l=>exact bL he2 (by show m1.ι id=_;rw[a2]) (λb _=>by show m1.w.heap[b]?=_;rw[a1]) hr
   |box l=>obtain⟨b,c,el,h1,h2,h3,h4⟩:=hr;exact⟨b,c,el,by show m1.ι id=_;rw[a2];exact h1,by show m1.w.heap[b]?=_;rw[a1];exact h2,h3,Rel2.map_right (f:=d9 m.G ids) (λ_ _ h=>kW (m1:=m2) hs.inv a1 he2 a6 h) h4⟩
  ·intro id o b ho hob hb;rcases hget id o ho with rfl|⟨hin,o0,h0,rfl⟩
   ·simp[isObj]at hob
   exact a4.own id o0 b (by rw[a3,bf ids _ id hin];exact h0) (by rw[<- hobj o0];exact hob) hb
  intro i j p q b hp hop hq hoq h1 h2;rcases hget i p hp with rfl|⟨hin,o0,h0,rfl⟩
  ·simp[isObj]at hop
  rcases hget j q hq with rfl|⟨hin',o1,h0',rfl⟩
  ·simp[isObj]at hoq
  exact a4.inj i j o0 o1 b (by rw[a3,bf ids _ i hin];exact h0) (by rw[<- hobj o0];exact hop) (by rw[a3,bf ids _ j hin'];exact h0') (by rw[<- hobj o1];exact hoq) h1 h2
 refine⟨m2,a1,by show aq ids _=aq ids _;rw[hG],hi2,hs.defers,hs.size,λt=>?_⟩;show RelSV m2 _ (Env.get (s.env.map λp=>(p.1,Av s.G ids p.2)) t);rw[Env.get_map _ (by rfl),<- hG];exact GK (m1:=m2) hs.inv a1 he2 a6 (hs.env t)
def zF(f:Atom->Atom):Obj->Obj
 |.box l=>.box (l.map f)
 |o=>o
theorem tr(f:Atom->Atom)(G:Heap)(i:Nat):∀ H:Heap,(∀ p∈H,G.get p.1≠none)->Heap.get (qM f G H++G) i=(if(∃ p∈H,p.1=i)then(G.get i).map (zF f)else G.get i)
 |[],_=>by simp[qM]
 |(k,v)::r,hH=>by
  have ih:=tr f G i r (λp hp=>hH p (Jq _ hp));have hk:(∃ p∈(k,v)::r,p.1=i)↔k=i\/∃ p∈r,p.1=i:=by simp
  unfold qM;split
  ·rename_i l hl;rw[KD,Heap.get_cons,ih];by_cases e:k=i
   ·subst e;have hl':G.get k=some (.box l):=hl;rw[if_pos rfl,if_pos (hk.2 (.inl rfl)),hl'];rfl
   rw[if_neg e];by_cases h2:∃ p∈r,p.1=i
   ·rw[if_pos h2,if_pos (hk.2 (.inr h2))]
   rw[if_neg h2,if_neg (λh=>(hk.1 h).elim e h2)]
  rename_i hl;rw[ih];by_cases h2:∃ p∈r,p.1=i
  ·rw[if_pos h2,if_pos (hk.2 (.inr h2))]
  rw[if_neg h2];by_cases e:k=i
  ·subst e;rw[if_pos (hk.2 (.inl rfl))];have hl:∀ l,G.get k=some (.box l)->False:=hl;cases hg:G.get k with
   |none=>rfl
   |some o=>cases o<;>first|exact(hl _ hg).elim|rfl
  rw[if_neg (λh=>(hk.1 h).elim e h2)]
theorem ux(f:Atom->Atom)(G:Heap)(i:Nat):Heap.get (qM f G G++G) i=(G.get i).map (zF f):=by
 rw[tr f G i G λp hp=>Heap.get_some hp];split
 ·rfl
 rename_i h;cases hg:G.get i with
 |none=>rfl
 |some o=>exact absurd (Heap.get_mem hg) h
theorem GQ{m1:Mem}{f:Atom->Atom}(hv:∀ τ x,f (.val τ x)=.val τ x)(he:Evo m m1)(hf:∀ u a',ai m u a'->ai m1 u (f a')){u:Value}{sv:SV}(h:RelSV m u sv):RelSV m1 u (xB f sv):=by
 cases sv with
 |av at'=>
  cases at' with
  |val τ x=>simp only[xB,hv];exact fm he h
  |_=>exact RelSV.of_atom (hf _ _ ((ao (by intros;simp)).1 h))
 |agg l=>obtain⟨us,h1,h2,h3⟩:=h;exact⟨us,h1,h2,Rel2.map_right (f:=f) (λ_ _ h=>hf _ _ h) h3⟩
 |tup l=>
  obtain⟨us,h1,h2⟩:=h;refine⟨us,h1,Rel2.map_right ?_ h2⟩;rintro v ⟨b,l⟩ hv;cases b with
  |true=>obtain⟨us,h1,h0,h2⟩:=hv;exact⟨us,h1,h0,Rel2.map_right (f:=f) (λ_ _ h=>hf _ _ h) h2⟩
  |false=>obtain⟨a,h1,h2⟩:=hv;simp only at h1;subst h1;exact⟨_,rfl,hf _ _ h2⟩
theorem tt(i:Nat)(T:Ty)(hs:Sim C w0 M N a m s.env)(hG:m.G=s.G):∃ m',m'.w=m.w/\m'.G=(mL i T s).G/\Sim C w0 M N a m' (mL i T s).env:=by
 unfold mL;cases hx:dQ s.G T i 0 with
 |none=>exact⟨m,rfl,hG,hs⟩
 |some x=>
 cases hemp:(c9 s.G i).isEmpty with
 |false=>exact⟨m,rfl,hG,hs⟩
 |true=>
 simp only[UA];rw[<- hG]at hx hemp;have hbi:c9 m.G i=[]:=Mj.1 hemp;obtain⟨m1,a1,a2,a3,a4,a5,a6⟩:=cE [i] hs.inv;have hget:∀ id o,Heap.get (aq [i] (qM (oV i T x) m.G m.G++m.G)) id=some o->o=.dead\/(id∉[i]/\∃ o0,m.G.get id=some o0/\o=zF (oV i T x) o0):=by
  intro id o ho;by_cases hin:id∈[i]
  ·rw[eT [i] _ id hin]at ho;simp only[aw]at ho;exact .inl ho.symm
  rw[bf [i] _ id hin,ux]at ho;obtain⟨o0,h1,h2⟩:=Kl.1 ho;exact .inr ⟨hin,o0,h1,h2.symm⟩
 have halike:∀ o0,Alike o0 (zF (oV i T x) o0):=by
  intro o0;cases o0<;>first|exact⟨rfl,rfl⟩|trivial
 have hobj:∀ o0,isObj (zF (oV i T x) o0)=isObj o0:=by intro o0;cases o0<;>rfl
 let m2:Mem:=⟨m1.w,m1.F,m1.ι,aq [i] (qM (oV i T x) m.G m.G++m.G)⟩
 have he2:Evo m m2:=by
  refine⟨a5.fro,λid o ho=>?_⟩;by_cases hin:id∈[i]
  ·exact⟨.dead,eT [i] _ id hin,.inl rfl⟩
  refine⟨zF (oV i T x) o,?_,.inr (.inl ⟨by show m1.ι id=_;rw[a2],halike o⟩)⟩;show Heap.get (aq [i] _) id=_;rw[bf [i] _ id hin,ux,ho];rfl
 have hatom:∀ u a',ai m u a'->ai m2 u (oV i T x a'):=by
  intro u a' h;cases a' with
  |ptr j o=>
   simp only[oV];cases hj:(A7 i j&&A7 o 0)with
   |false=>exact bq he2 h
   |true=>
    simp only[np]at hj;have e1:=A3 hj.1;have e2:=A3 hj.2;subst e1;subst e2
    have:=pY hs.inv hx h;rw[hbi]at this;exact⟨this.mono λb hb=>⟨a6 b hb,by show m1.w.heap[b]?=_;rw[a1]⟩,rfl⟩
  |_=>exact bq he2 h
 have hi2:Inv C w0 M m2:=by
  refine⟨a4.kept,?_,?_,?_,a4.fro,λg τ x hg=>a4.glob g τ x hg,a4.bnd,bI he2 hs.inv.pin⟩
  ·intro id o ho;rcases hget id o ho with rfl|⟨hin,o0,h0,rfl⟩
   ·trivial
   have hr:=hs.inv.objs id o0 h0;cases o0 with
   |dead=>trivial
   |arr τ l=>exact bL he2 (by show m1.ι id=_;rw[a2]) (λb _=>by show m1.w.heap[b]?=_;rw[a1]) hr
   |deep ver τ l hole=>exact bL he2 (by show m1.ι id=_;rw[a2]) (λb _=>by show m1.w.heap[b]?=_;rw[a1]) hr
   |map k v l=>exact bL he2 (by show m1.ι id=_;rw[a2]) (λb _=>by show m1.w.heap[b]?=_;rw[a1]) hr
   |box l=>obtain⟨b,c,el,h1,h2,h3,h4⟩:=hr;exact⟨b,c,el,by show m1.ι id=_;rw[a2];exact h1,by show m1.w.heap[b]?=_;rw[a1];exact h2,h3,Rel2.map_right (f:=oV i T x) (λ_ _ h=>hatom _ _ h) h4⟩
  ·intro id o b ho hob hb;rcases hget id o ho with rfl|⟨hin,o0,h0,rfl⟩
   ·simp[isObj]at hob
   exact a4.own id o0 b (by rw[a3,bf [i] _ id hin];exact h0) (by rw[<- hobj o0];exact hob) hb
  intro j k p q b hp hop hq hoq h1 h2;rcases hget j p hp with rfl|⟨hin,o0,h0,rfl⟩
  ·simp[isObj]at hop
  rcases hget k q hq with rfl|⟨hin',o1,h0',rfl⟩
  ·simp[isObj]at hoq
  exact a4.inj j k o0 o1 b (by rw[a3,bf [i] _ j hin];exact h0) (by rw[<- hobj o0];exact hop) (by rw[a3,bf [i] _ k hin'];exact h0') (by rw[<- hobj o1];exact hoq) h1 h2
 refine⟨m2,a1,by show aq [i] _=aq [i] _;rw[hG],hi2,hs.defers,hs.size,λt=>?_⟩;show RelSV m2 _ (Env.get (s.env.map λp=>(p.1,xB (oV i T x) p.2)) t);rw[Env.get_map _ (by rfl)];exact GQ (m1:=m2) (λ_ _=>rfl) he2 hatom (hs.env t)
theorem C5(id:Nat)(hs:Sim C w0 M N a m s.env)(hG:m.G=s.G):∃ m',m'.w=m.w/\m'.G=(sN C id s).G/\Sim C w0 M N a m' (sN C id s).env:=by
 unfold sN;split
 ·rename_i p _;obtain⟨m1,a1,a2,a3⟩:=lZ (c9 s.G p.1) hs hG;obtain⟨m2,b1,b2,b3⟩:=tt p.1 p.2 a3 a2;exact⟨m2,b1.trans a1,b2,b3⟩
 exact⟨m,rfl,hG,hs⟩
structure CtxOK (P:Program)(C:Ctx):Prop where
 tab:cb P C.tab=true
 eqs:Ew P C
 maps:nh P C
 con:∀ f site c,C.con f site=some c->c.Holds P C.glob f
 inl:∀ f r,C.inl f=some r->km P C.glob f r
theorem Ez {R:Type}{r:R}{K:St->Option R}(hC:CtxOK P C)(hs:Sim C w0 M N a m s.env)(hG:m.G=s.G)(hd:∀ d,o.dst=some d->d < N)(h:aZ C o s K=some r)
  {Kc:Act->World->Prop} {Q:Exit->Act->World->Prop} (hK:∀ s' a' m',K s'=some r->m'.G=s'.G->Sim C w0 M N a' m' s'.env->Kc a' m'.w):o.wp P a m.w Kc Q:=by
 refine BD hC.tab hC.eqs hC.maps hC.con hC.inl hs.inv hG (pL hs.inv hs.env) h Kc Q ?_;rintro v w' ⟨s',hK',m',sv,rfl,rfl,h1,h2,h3⟩;exact hK _ _ m' hK' (by cases o.dst<;>rfl) (xj hs h1 h2 h3 hd)
theorem u5(hs:Sim C w0 M N a m s.env)(hG:m.G=s.G)(o:Oper):∃ m',m'.w=m.w/\m'.G=(ij C o s).G/\Sim C w0 M N a m' (ij C o s).env:=by
 unfold ij;split
 ·exact⟨m,rfl,hG,hs⟩
 exact lZ _ hs hG
theorem pd{d:Nat}{sv:SV}(hs:Sim C w0 M N a m s.env)(h:s.env.get d=sv):Sim C w0 M N a m ((d,sv)::s.env):=by
 refine⟨hs.inv,hs.defers,hs.size,λt=>?_⟩;rw[Env.get_cons];split
 ·rename_i e;subst e;rw[<- h];exact hs.env d
 exact hs.env t
theorem sc{ops:Array Oper}{j d:Nat}{b:Bool}(hs:Sim C w0 M N a m s.env)(hj:eY ops.toList j=some d)(h:s.env.get d=.av (.val .bool b)):yielded ops a.tmps j=some b:=by
 have hv:=hs.env d;rw[h]at hv;have hv:=fh hv;have hd:(ops[j]?).bind (·.dst)=some d:=by
  unfold eY at hj;rw[JN]at hj;split at hj
  ·rename_i o ho;simp[ho,hj]
  simp at hj
 unfold yielded;rw[hd];have:a.tmps[d]?=some (.bool b):=by
  rw[JW]at hv;cases hg:a.tmps[d]? with
  |none=>rw[hg]at hv;simp[undef]at hv
  |some v=>rw[hg]at hv;simpa using hv
 simp[this]
theorem qO{ops:Array Oper}{j d:Nat}(hs:Sim C w0 M N a m s.env)(hj:eY ops.toList j=some d)(h:s.env.get d=.av .undef):yielded ops a.tmps j=none:=by
 have hv:=hs.env d;rw[h]at hv;have hv:a.tmps.getD d undef=undef:=hv;have hd:(ops[j]?).bind (·.dst)=some d:=by
  unfold eY at hj;rw[JN]at hj;split at hj
  ·rename_i o ho;simp[ho,hj]
  simp at hj
 unfold yielded;rw[hd];rw[JW]at hv;cases hg:a.tmps[d]? with
 |none=>simp[hg]
 |some v=>rw[hg]at hv;simp at hv;subst hv;simp[hg,undef]
theorem nQ {R:Type}{res:R}{K:St->Option R}(hC:CtxOK P C){ops:Array Oper}{Q:Exit->Act->World->Prop}
  (hK:∀ s' a' m',K s'=some res->m'.G=s'.G->Sim C w0 M N a' m' s'.env->Q .normal a' m'.w) (hd:∀ o∈ops.toList,∀ d,o.dst=some d->d<N) :
  ∀(l:List Oper) (k:Nat) {s:St} {a:Act} {m:Mem},(∀ j,l[j]?=ops[k+j]?)->dj C ops.toList l s K=some res->m.G=s.G->Sim C w0 M N a m s.env->wpOps P ops Q (LZ k l.length) a m.w
 |[],k,s,a,m,_,h,hG,hs=>hK s a m h hG hs
 |o::r,k,s,a,m,hl,h,hG,hs=>by
  have h0:ops[k]?=some o:=by simpa using(hl 0).symm
  have hmem:o∈ops.toList:=by rw[Array.mem_toList_iff];exact Array.mem_of_getElem? h0
  have hl':∀ j,r[j]?=ops[k+1+j]?:=λj=>by have:=hl (j+1);simpa[JX,KX 1 j]using this
  rw[B6,List.range'_succ];simp only[wpOps,h0];have go {s:St} {m:Mem} (hG:m.G=s.G) (hs:Sim C w0 M N a m s.env) (h:aZ C o (ij C o s) (λs'=>dj C ops.toList r s' K)=some res):o.wp P a m.w (wpOps P ops Q (LZ (k+1) r.length)) Q:=by obtain⟨m',e1,e2,e3⟩:=u5 hs hG o;rw[<- e1];exact Ez hC e3 e2 (hd o hmem) h λs' a' m' h1 h2 h3=>nQ hC hK hd r (k+1) hl' h1 h2 h3
  have skip {s:St} {m:Mem} (hG:m.G=s.G) (hs:Sim C w0 M N a m s.env) (h:dj C ops.toList r (ag o.dst (.av .undef) s) K=some res):wpOps P ops Q (LZ (k+1) r.length) (a.put o.dst undef) m.w:=
   nQ hC hK hd r (k+1) hl' h (by rw[hG];cases o.dst<;>rfl) (xj hs hs.inv (Evo.refl m) (show RelSV m undef (.av .undef)from rfl) (hd o hmem))
  unfold dj at h;split at h
  ·rename_i hg;have hw:Region.wanted o (yielded ops a.tmps)=true:=by simp[Region.wanted,hg]
   rw[if_pos hw];exact .inl (go hG hs h)
  rename_i j want hg;split at h
  ·simp at h
  rename_i d hdd;split at h
  ·rename_i b hb;have hy:=sc hs hdd hb;have hw:Region.wanted o (yielded ops a.tmps)=(b==want):=by simp[Region.wanted,hg,hy]
   rw[hw];cases b with
   |true=>
    simp only[UA]at h;cases want with
    |true=>exact .inl (go (s:=⟨(d,.av (.val .bool true))::s.env,s.G⟩) hG (pd hs hb) h)
    |false=>exact skip (s:=⟨(d,.av (.val .bool true))::s.env,s.G⟩) hG (pd hs hb) h
   |false=>
    simp only[UB]at h;cases want with
    |true=>exact skip (s:=⟨(d,.av (.val .bool false))::s.env,s.G⟩) hG (pd hs hb) h
    |false=>exact .inl (go (s:=⟨(d,.av (.val .bool false))::s.env,s.G⟩) hG (pd hs hb) h)
  ·rename_i hb;have hy:=qO hs hdd hb;have hw:Region.wanted o (yielded ops a.tmps)=false:=by simp[Region.wanted,hg,hy]
   rw[hw];exact skip hG hs h
  simp at h
theorem yO {R:Type}{res:R}{K:St->Option R}(hC:CtxOK P C){id:Nat}{ops:Array Oper}{Q:Exit->Act->World->Prop}
  (hK:∀ s' a' m',K s'=some res->m'.G=s'.G->Sim C w0 M N a' m' s'.env->Q .normal a' m'.w) (hd:∀ o∈ops.toList,∀ d,o.dst=some d->d<N)
  (h:dj C ops.toList ops.toList s K=some res) (hG:m.G=s.G) (hs:Sim C w0 M N a m s.env):(Code.region id ops false).wp P Q a m.w:=by
 refine wp_region ?_;have:=nQ hC hK hd ops.toList 0 (λj=>by simp) h hG hs;rw[List.range_eq_range'];simpa using this
end
end Go.Vm

/-
 A state laid into a shape.
-/
namespace Go.Vm
section
variable {P:Program}{C:Ctx}{w0:World}{M:Own}{N:Nat}{a:Act}{m:Mem}{s:St}
def gC(m:Mem)(j:Nat):Prop:=∃ o,m.G.get j=some o/\isObj o=true
def GM(m:Mem):Src->Value->Prop
 |.nil,v=>∃ ad,v=.slice ad 0 0
 |.own j,v=>gC m j->v=m.ι j
 |.view j o n,v=>ai m v (.view j o n)
 |.nild,v=>∃ ad,v=.tuple [.slice ad 0 0].toArray
def ga(m:Mem)(R:Ren)(ρ:Nat->Value):Prop:=∀ i src,R.get i=some src->GM m src (ρ i)
def Ext(R:Ren)(ρ:Nat->Value)(R':Ren)(ρ':Nat->Value):Prop:=∀ i src,R.get i=some src->R'.get i=some src/\ρ' i=ρ i
theorem Ext.refl(R:Ren)(ρ:Nat->Value):Ext R ρ R ρ:=λ_ _ h=>⟨h,rfl⟩
theorem Ext.trans{R R' R'':Ren}{ρ ρ' ρ'':Nat->Value}(h:Ext R ρ R' ρ')(h':Ext R' ρ' R'' ρ''):Ext R ρ R'' ρ'':=λi src hi=>by obtain⟨h1,h2⟩:=h i src hi;obtain⟨h3,h4⟩:=h' i src h1;exact⟨h3,h4.trans h2⟩
def AtomR(m:Mem)(R:Ren)(ρ:Nat->Value)(u:Value):SpA->Prop
 |.own i=>u.oneCell'=true/\∃ src,R.get i=some src/\(u=ρ i\/∃ j,src=.own j/\¬gC m j)
 |.ptr i o=>∃ j,R.get i=some (.own j)/\ai m u (.ptr j o)
 |.clo _ c=>∀ i∈c,R.get i=some (.own i)
 |.ownm i=>u.oneCell'=true/\∃ j,R.get i=some (.own j)/\(u=ρ i\/¬gC m j)
 |.ownd i=>u.oneCell'=true/\∃ src,R.get i=some src/\((∃ us,ρ i=.tuple us/\us[0]?=some u)\/∃ j,src=.own j/\¬gC m j)
 |_=>True
theorem AtomR.ext{R R':Ren}{ρ ρ':Nat->Value}(he:Ext R ρ R' ρ'){u:Value}{x:SpA}(h:AtomR m R ρ u x):AtomR m R' ρ' u x:=by
 cases x with
 |own i=>obtain⟨h1,src,h2,h3⟩:=h;obtain⟨e1,e2⟩:=he i src h2;exact⟨h1,src,e1,h3.imp (λh=>by rw[e2];exact h) id⟩
 |ptr i o=>obtain⟨j,h1,h2⟩:=h;exact⟨j,(he i _ h1).1,h2⟩
 |clo f c=>exactλi hi=>(he i _ (h i hi)).1
 |ownd i=>obtain⟨h1,src,h2,h3⟩:=h;obtain⟨e1,e2⟩:=he i src h2;exact⟨h1,src,e1,h3.imp (λh=>by rw[e2];exact h) id⟩
 |ownm i=>obtain⟨h1,j,h2,h3⟩:=h;obtain⟨e1,e2⟩:=he i _ h2;exact⟨h1,j,e1,h3.imp (λh=>by rw[e2];exact h) id⟩
 |_=>trivial
theorem lK{R R':Ren}{i:Nat}{src:Src}(h:R.add i src=some R'):(R.get i=none/\R'=(i,src)::R)\/(∃ j,src=.own j/\R.get i=some (.own j)/\R'=R):=by
 unfold Ren.add at h;split at h
 ·rename_i hg;simp at h;exact .inl ⟨hg,h.symm⟩
 rename_i s' hg;cases hs:s'.same src with
 |false=>rw[hs]at h;simp at h
 |true=>
  rw[hs]at h;simp at h;unfold Src.same at hs;split at hs
  ·rename_i i' j';have:=A3 hs;subst this;exact .inr ⟨i',rfl,hg,h.symm⟩
  simp at hs
theorem Ren.get_cons(i:Nat)(v:Src)(R:Ren)(j:Nat):Ren.get ((i,v)::R) j=if i=j then some v else R.get j:=by
 simp only[Ren.get];cases h:A7 i j with
 |true=>simp[A3 h]
 |false=>simp[Nat.ne_of_beq_eq_false h]
theorem ly {R:Ren}{ρ : Nat->Value}(hR:ga m R ρ){i:Nat}{src:Src}{v:Value}(hn:R.get i=none)(hv:GM m src v) :
  ga m ((i,src)::R) (λk=>if k=i then v else ρ k)/\Ext R ρ ((i,src)::R) (λk=>if k=i then v else ρ k):=by
 refine⟨λk s' hk=>?_,λk s' hk=>?_⟩
 ·rw[Ren.get_cons]at hk;split at hk
  ·rename_i e;subst e;simp at hk;subst hk;simpa using hv
  rename_i e;simp[Ne.symm e];exact hR k s' hk
 have e:i≠k:=by intro e;subst e;rw[hn]at hk;cases hk
 exact⟨by rw[Ren.get_cons,if_neg e];exact hk,by simp[Ne.symm e]⟩
theorem pD:∀(c:List Nat) {R R':Ren} {ρ:Nat->Value},Ren.addCaps c R=some R'->ga m R ρ->∃ ρ',ga m R' ρ'/\Ext R ρ R' ρ'/\∀ i∈c,R'.get i=some (.own i)
 |[],R,R',ρ,h,hR=>by simp only[Ren.addCaps,aw]at h;subst h;exact⟨ρ,hR,Ext.refl _ _,by simp⟩
 |i::r,R,R',ρ,h,hR=>by
  simp only[Ren.addCaps]at h;split at h
  ·rename_i R1 h1;have one:∃ ρ1,ga m R1 ρ1/\Ext R ρ R1 ρ1/\R1.get i=some (.own i):=by
    rcases lK h1 with⟨hn,rfl⟩|⟨j,hj,hg,rfl⟩
    ·obtain⟨k1,k2⟩:=ly hR (src:=.own i) (v:=m.ι i) hn (λ_=>rfl);exact⟨_,k1,k2,by rw[Ren.get_cons,if_pos rfl]⟩
    cases hj;exact⟨ρ,hR,Ext.refl _ _,hg⟩
   obtain⟨ρ1,a1,a2,a3⟩:=one;obtain⟨ρ2,b1,b2,b3⟩:=pD r h a1;refine⟨ρ2,b1,a2.trans b2,?_⟩;intro k hk;rcases A8.1 hk with rfl|hk
   ·exact(b2 k _ a3).1
   exact b3 k hk
  simp at h
theorem kB{R R':Ren}{ρ:Nat->Value}{x:SpA}{b:Atom}{u:Value}(h:x.ren b R=some R')(hr:ai m u b)(hR:ga m R ρ):∃ ρ',ga m R' ρ'/\Ext R ρ R' ρ'/\AtomR m R' ρ' u x:=by
 have own {i:Nat} {src:Src} (h:R.add i src=some R') (hv:GM m src u) (h1:u.oneCell'=true):∃ ρ',ga m R' ρ'/\Ext R ρ R' ρ'/\AtomR m R' ρ' u (.own i):=by
  rcases lK h with⟨hn,rfl⟩|⟨j,rfl,hg,rfl⟩
  ·obtain⟨k1,k2⟩:=ly hR hn hv;exact⟨_,k1,k2,h1,src,by rw[Ren.get_cons,if_pos rfl],.inl (by simp)⟩
  refine⟨ρ,hR,Ext.refl _ _,h1,.own j,hg,?_⟩;by_cases hal:gC m j
  ·exact .inl ((hv hal).trans (hR i _ hg hal).symm)
  exact .inr ⟨j,rfl,hal⟩
 cases x with
 |own i=>
  cases b with
  |own j=>simp only[SpA.ren]at h;obtain⟨h1,o,h2,h3⟩:=hr;refine own h ?_ h1;rintro⟨o',h4,h5⟩;rw[h2]at h4;simp only[aw]at h4;subst h4;exact h3 h5
  |nils=>simp only[SpA.ren]at h;obtain⟨ad,rfl,_⟩:=hr;exact own h ⟨ad,rfl⟩ rfl
  |view j o n=>simp only[SpA.ren]at h;exact own h hr hr.1
  |_=>simp[SpA.ren]at h
 |ptr i o=>
  cases b with
  |ptr j o'=>
   simp only[SpA.ren]at h;cases ho:A7 o o' with
   |false=>rw[ho]at h;simp at h
   |true=>
    rw[ho]at h;simp only[UA]at h;have:=A3 ho;subst this;rcases lK h with⟨hn,rfl⟩|⟨j',hj,hg,rfl⟩
    ·obtain⟨k1,k2⟩:=ly hR (src:=.own j) (v:=m.ι j) hn (λ_=>rfl);exact⟨_,k1,k2,j,by rw[Ren.get_cons,if_pos rfl],hr⟩
    cases hj;exact⟨ρ,hR,Ext.refl _ _,j,hg,hr⟩
  |_=>simp[SpA.ren]at h
 |clo f c=>
  have h:Ren.addCaps c R=some R':=by cases b<;>exact h
  obtain⟨ρ',k1,k2,k3⟩:=pD c h hR;exact⟨ρ',k1,k2,k3⟩
 |ownm i=>
  cases b with
  |ownm j=>
   simp only[SpA.ren]at h;obtain⟨h1,o,h2,h3⟩:=hr;have key:∀ v,(gC m j->v=m.ι j)->u=v\/¬gC m j:=by
    intro v hv;by_cases hal:gC m j
    ·left;obtain⟨o',q1,q2⟩:=hal;rw[h2]at q1;cases q1;cases o with
     |map _ _ _=>rw[hv ⟨_,h2,rfl⟩];exact h3
     |dead=>simp[isObj]at q2
     |_=>exact h3.elim
    exact .inr hal
   rcases lK h with⟨hn,rfl⟩|⟨j',hj,hg,rfl⟩
   ·obtain⟨k1,k2⟩:=ly hR (src:=.own j) (v:=m.ι j) hn (λ_=>rfl);exact⟨_,k1,k2,h1,j,by rw[Ren.get_cons,if_pos rfl],key _ (λ_=>by simp)⟩
   cases hj;exact⟨ρ,hR,Ext.refl _ _,h1,j,hg,key _ (hR i _ hg)⟩
  |_=>simp[SpA.ren]at h
 |ownd i=>
  cases b with
  |ownd j=>
   simp only[SpA.ren]at h;obtain⟨h1,o,h2,h3⟩:=hr;have key:∀ v,(gC m j->v=m.ι j)->(∃ us,v=.tuple us/\us[0]?=some u)\/∃ j',Src.own j=.own j'/\¬gC m j':=by
    intro v hv;by_cases hal:gC m j
    ·left;obtain⟨o',q1,q2⟩:=hal;rw[h2]at q1;cases q1;cases o with
     |deep _ _ _ _=>rw[hv ⟨_,h2,rfl⟩];exact h3
     |dead=>simp[isObj]at q2
     |_=>exact h3.elim
    exact .inr ⟨j,rfl,hal⟩
   rcases lK h with⟨hn,rfl⟩|⟨j',hj,hg,rfl⟩
   ·obtain⟨k1,k2⟩:=ly hR (src:=.own j) (v:=m.ι j) hn (λ_=>rfl);exact⟨_,k1,k2,h1,.own j,by rw[Ren.get_cons,if_pos rfl],key _ (λ_=>by simp)⟩
   cases hj;exact⟨ρ,hR,Ext.refl _ _,h1,.own j,hg,key _ (hR i _ hg)⟩
  |nils=>
   simp only[SpA.ren]at h;obtain⟨ad,rfl,_⟩:=hr;rcases lK h with⟨hn,rfl⟩|⟨j',hj,_,_⟩
   ·obtain⟨k1,k2⟩:=ly hR (src:=.nild) (v:=.tuple [.slice ad 0 0].toArray) hn ⟨ad,rfl⟩;exact⟨_,k1,k2,rfl,.nild,by rw[Ren.get_cons,if_pos rfl],.inl ⟨_,by simp;rfl,by simp⟩⟩
   cases hj
  |_=>simp[SpA.ren]at h
 |u=>simp only[SpA.ren,aw]at h;subst h;exact⟨ρ,hR,Ext.refl _ _,trivial⟩
 |undef=>simp only[SpA.ren,aw]at h;subst h;exact⟨ρ,hR,Ext.refl _ _,trivial⟩
 |nils=>simp only[SpA.ren,aw]at h;subst h;exact⟨ρ,hR,Ext.refl _ _,trivial⟩
 |val τ=>simp only[SpA.ren,aw]at h;subst h;exact⟨ρ,hR,Ext.refl _ _,trivial⟩
theorem ox:∀{l:List SpA} {bs:List Atom} {us:List Value} {R R':Ren} {ρ : Nat->Value},SpA.renL l bs R=some R'->Rel2 (ai m) us bs->ga m R ρ ->
  ∃ ρ',ga m R' ρ'/\Ext R ρ R' ρ'/\Rel2 (AtomR m R' ρ') us l
 |[],[],[],R,R',ρ,h,_,hR=>by simp only[SpA.renL,aw]at h;subst h;exact⟨ρ,hR,Ext.refl _ _,trivial⟩
 |[],_::_,_,_,_,_,h,_,_=>by simp[SpA.renL]at h
 |_::_,[],_,_,_,_,h,_,_=>by simp[SpA.renL]at h
 |_,_::_,[],_,_,_,_,h,_=>h.elim
 |_,[],_::_,_,_,_,_,h,_=>h.elim
 |x::l,b::bs,u::us,R,R',ρ,h,hr,hR=>by
  simp only[SpA.renL]at h;split at h
  ·rename_i R1 h1;obtain⟨ρ1,a1,a2,a3⟩:=kB h1 hr.1 hR;obtain⟨ρ2,b1,b2,b3⟩:=ox h hr.2 a1;exact⟨ρ2,b1,a2.trans b2,a3.ext b2,b3⟩
  simp at h
def SvR(m:Mem)(R:Ren)(ρ:Nat->Value)(u:Value):SpS->Prop
 |.av (.val _)=>True
 |.av x=>AtomR m R ρ u x
 |.agg l=>∃ us:List Value,u=.agg us.toArray/\(∀ v∈us,v.oneCell'=true)/\Rel2 (AtomR m R ρ) us l
 |.sub _=>True
 |.view _=>True
theorem SvR.ext{R R':Ren}{ρ ρ':Nat->Value}(he:Ext R ρ R' ρ'){u:Value}{x:SpS}(h:SvR m R ρ u x):SvR m R' ρ' u x:=by
 cases x with
 |av x=>
  cases x with
  |val _=>trivial
  |u=>trivial
  |undef=>trivial
  |nils=>trivial
  |own i=>exact AtomR.ext (x:=.own i) he h
  |ptr i o=>exact AtomR.ext (x:=.ptr i o) he h
  |clo f c=>exact AtomR.ext (m:=m) (u:=u) (x:=.clo f c) he h
  |ownd i=>exact AtomR.ext (x:=.ownd i) he h
  |ownm i=>exact AtomR.ext (x:=.ownm i) he h
 |agg l=>obtain⟨us,h1,h2,h3⟩:=h;exact⟨us,h1,h2,h3.mono λ_ _=>AtomR.ext he⟩
 |sub _=>trivial
 |view _=>trivial
theorem GI{R R':Ren}{ρ:Nat->Value}{x:SpS}{b:SV}{u:Value}(h:x.ren b R=some R')(hr:RelSV m u b)(hR:ga m R ρ):∃ ρ',ga m R' ρ'/\Ext R ρ R' ρ'/\SvR m R' ρ' u x:=by
 unfold SpS.ren at h;split at h
 ·rename_i x b;cases x with
  |val τ=>
   have:R'=R:=by
    unfold SpA.ren at h;split at h<;>first|cases ‹SpA.val _=_› | (simp only[aw]at h;exact h.symm)
   subst this;exact⟨ρ,hR,Ext.refl _ _,trivial⟩
  |u=>
   have:R'=R:=by
    unfold SpA.ren at h;split at h<;>first|cases ‹SpA.u=_› | (simp only[aw]at h;exact h.symm)
   subst this;exact⟨ρ,hR,Ext.refl _ _,trivial⟩
  |undef=>
   have:R'=R:=by
    unfold SpA.ren at h;split at h<;>first|cases ‹SpA.undef=_› | (simp only[aw]at h;exact h.symm)
   subst this;exact⟨ρ,hR,Ext.refl _ _,trivial⟩
  |nils=>
   have:R'=R:=by
    unfold SpA.ren at h;split at h<;>first|cases ‹SpA.nils=_› | (simp only[aw]at h;exact h.symm)
   subst this;exact⟨ρ,hR,Ext.refl _ _,trivial⟩
  |own i=>
   cases b with
   |val τ y=>simp[SpA.ren]at h
   |_=>obtain⟨ρ',k1,k2,k3⟩:=kB h ((ao (by intros;simp)).1 hr) hR;exact⟨ρ',k1,k2,k3⟩
  |ptr i o=>
   cases b with
   |val τ y=>simp[SpA.ren]at h
   |_=>obtain⟨ρ',k1,k2,k3⟩:=kB h ((ao (by intros;simp)).1 hr) hR;exact⟨ρ',k1,k2,k3⟩
  |clo f c=>
   have h:Ren.addCaps c R=some R':=by cases b<;>exact h
   obtain⟨ρ',k1,k2,k3⟩:=pD c h hR;exact⟨ρ',k1,k2,k3⟩
  |ownd i=>
   cases b with
   |val τ y=>simp[SpA.ren]at h
   |_=>obtain⟨ρ',k1,k2,k3⟩:=kB h ((ao (by intros;simp)).1 hr) hR;exact⟨ρ',k1,k2,k3⟩
  |ownm i=>
   cases b with
   |val τ y=>simp[SpA.ren]at h
   |_=>obtain⟨ρ',k1,k2,k3⟩:=kB h ((ao (by intros;simp)).1 hr) hR;exact⟨ρ',k1,k2,k3⟩
 ·rename_i l r;obtain⟨us,h1,h2,h3⟩:=hr;obtain⟨ρ',k1,k2,k3⟩:=ox h h3 hR;exact⟨ρ',k1,k2,us,h1,h2,k3⟩
 ·simp only[aw]at h;subst h;exact⟨ρ,hR,Ext.refl _ _,trivial⟩
 ·simp only[aw]at h;subst h;exact⟨ρ,hR,Ext.refl _ _,trivial⟩
 ·simp only[aw]at h;subst h;exact⟨ρ,hR,Ext.refl _ _,trivial⟩
 ·simp only[aw]at h;subst h;exact⟨ρ,hR,Ext.refl _ _,trivial⟩
 simp at h
theorem xQ {e:Env}{t:Nat->Value}(ht:∀ i,RelSV m (t i) (e.get i)):∀{l:List (Nat×SpS)} {R R':Ren} {ρ : Nat->Value},pT e l R=some R'->ga m R ρ ->
  ∃ ρ',ga m R' ρ'/\Ext R ρ R' ρ'/\∀ p∈l,SvR m R' ρ' (t p.1) p.2
 |[],R,R',ρ,h,hR=>by simp only[pT,aw]at h;subst h;exact⟨ρ,hR,Ext.refl _ _,by simp⟩
 |p::l,R,R',ρ,h,hR=>by
  simp only[pT]at h;split at h
  ·rename_i R1 h1;obtain⟨ρ1,a1,a2,a3⟩:=GI h1 (ht p.1) hR;obtain⟨ρ2,b1,b2,b3⟩:=xQ ht h a1;refine⟨ρ2,b1,a2.trans b2,?_⟩;intro q hq;rcases A8.1 hq with rfl|hq
   ·exact a3.ext b2
   exact b3 q hq
  simp at h
def I7(m:Mem)(R:Ren)(ρ:Nat->Value)(i:Nat)(sp:List SpA):Prop:=
 ∃ j b,R.get i=some (.own j)/\m.G.get j=some (.box b)/\∀ bl c el,m.ι j=.pointer (some ⟨bl,0,none⟩)->m.w.heap[bl]?=some (.cells c el (0,0))->Rel2 (AtomR m R ρ) c.toList sp
theorem kU (hi:Inv C w0 M m):∀{l:List (Nat×SpO)} {R R':Ren} {ρ : Nat->Value},iK m.G l R=some R'->ga m R ρ ->
  ∃ ρ',ga m R' ρ'/\Ext R ρ R' ρ'/\∀ p∈l,∀ sp,p.2=.box sp->I7 m R' ρ' p.1 sp
 |[],R,R',ρ,h,hR=>by simp only[iK,aw]at h;subst h;exact⟨ρ,hR,Ext.refl _ _,by simp⟩
 |(i,.arr τ)::l,R,R',ρ,h,hR=>by
  obtain⟨ρ',k1,k2,k3⟩:=kU hi (l:=l) h hR;refine⟨ρ',k1,k2,?_⟩;intro p hp sp he;rcases A8.1 hp with rfl|hp
  ·cases he
  exact k3 p hp sp he
 |(i,.deep τ)::l,R,R',ρ,h,hR=>by
  obtain⟨ρ',k1,k2,k3⟩:=kU hi (l:=l) h hR;refine⟨ρ',k1,k2,?_⟩;intro p hp sp he;rcases A8.1 hp with rfl|hp
  ·cases he
  exact k3 p hp sp he
 |(i,.map κ v)::l,R,R',ρ,h,hR=>by
  obtain⟨ρ',k1,k2,k3⟩:=kU hi (l:=l) h hR;refine⟨ρ',k1,k2,?_⟩;intro p hp sp he;rcases A8.1 hp with rfl|hp
  ·cases he
  exact k3 p hp sp he
 |(i,.box s)::l,R,R',ρ,h,hR=>by
  simp only[iK]at h;split at h
  ·rename_i j hj;split at h
   ·rename_i c hc;split at h
    ·rename_i R1 h1;obtain⟨b,cc,el,q1,q2,q3,q4⟩:=hi.objs j _ hc;obtain⟨ρ1,a1,a2,a3⟩:=ox h1 q4 hR;obtain⟨ρ2,b1,b2,b3⟩:=kU hi h a1;refine⟨ρ2,b1,a2.trans b2,?_⟩;intro p hp sp he;rcases A8.1 hp with rfl|hp
     ·cases he;refine⟨j,c,((a2.trans b2) i _ hj).1,hc,λbl c' el' e1 e2=>?_⟩;rw[q1]at e1;simp only[Value.pointer.injEq,aw,Addr.mk.injEq,and_true]at e1;subst e1;rw[q2]at e2;simp only[aw,Go.Obj.cells.injEq]at e2;obtain⟨rfl,_⟩:=e2;exact a3.mono λ_ _=>AtomR.ext b2
     exact b3 p hp sp he
    simp at h
   simp at h
  simp at h
end
end Go.Vm

/-
 A state laid into a shape: the leaves.
-/
namespace Go.Vm
section
variable {P:Program}{C:Ctx}{w0:World}{M:Own}{N:Nat}{a:Act}{m:Mem}{s:St}
def DZ(G:Heap)(sp:SpA)(b a':Atom):Prop:=match sp with
 |.val τ=>∃ x,a'=.val τ x/\aF G τ b=some x
 |.u=>a'=.u
 |.undef=>a'=.undef/\b=.undef
 |.nils=>a'=.nils false/\∃ d,b=.nils d
 |.own i=>a'=.own i
 |.ptr i o=>a'=.ptr i o
 |.clo f c=>a'=.clo f c/\b=.clo f c
 |.ownd i=>a'=.ownd i
 |.ownm i=>a'=.ownm i
def rm(G:Heap):List SpA->List Atom->List Atom->Prop
 |[],_,as=>as=[]
 |x::l,b::bs,y::as=>DZ G x b y/\rm G l bs as
 |_,_,_=>False
theorem fQ{G:Heap}{sp:SpA}{b:Atom}{r:Ty}{k:Option r.den}{y:(sp.tys r).den}(h:sp.ext G b r k=some y):k=some (sp.inj r y).2/\DZ G sp b (sp.inj r y).1:=by
 cases sp with
 |val τ=>
  simp only[SpA.ext]at h;split at h
  ·rename_i x z hx;have:=B7 h;subst this;exact⟨rfl,x,rfl,hx⟩
  simp at h
 |u=>exact⟨h,rfl⟩
 |undef=>
  cases b<;>simp only[SpA.ext]at h<;>first|exact⟨h,rfl,rfl⟩|simp at h
 |nils=>
  cases b<;>simp only[SpA.ext]at h<;>first|exact⟨h,rfl,_,rfl⟩|simp at h
 |own i=>exact⟨h,rfl⟩
 |ptr i o=>exact⟨h,rfl⟩
 |ownd i=>exact⟨h,rfl⟩
 |ownm i=>exact⟨h,rfl⟩
 |clo f c=>
  cases b<;>simp only[SpA.ext]at h<;>try (simp at h;done)
  rename_i f' c';cases hc:(A7 f f'&&decide (c=c'))with
  |false=>rw[hc]at h;simp at h
  |true=>rw[hc]at h;simp only[np,decide_eq_true_eq]at hc;have:=A3 hc.1;subst this;obtain⟨_,rfl⟩:=hc;exact⟨h,rfl,rfl⟩
theorem nD{G:Heap}:∀{l:List SpA} {bs:List Atom} {r:Ty} {k:Option r.den} {y:(SpA.tysL l r).den},SpA.extL G l bs r k=some y->k=some (SpA.injL l r y).2/\rm G l bs (SpA.injL l r y).1
 |[],_,_,_,_,h=>⟨h,rfl⟩
 |_::_,[],_,_,_,h=>by simp[SpA.extL]at h
 |x::l,b::bs,r,k,y,h=>by simp only[SpA.extL]at h;obtain⟨h1,h2⟩:=fQ h;obtain⟨h3,h4⟩:=nD h1;exact⟨h3,h2,h4⟩
def w9(G:Heap)(sp:SpS)(b v:SV):Prop:=match sp with
 |.av (.val τ)=>∃ x,v=.av (.val τ x)/\aR G τ b=some x
 |.av .u=>v=.av .u
 |.av x=>∃ b' a',b=.av b'/\v=.av a'/\DZ G x b' a'
 |.agg l=>∃ bs as,b=.agg bs/\v=.agg as/\rm G l bs as
 |.sub i=>∃ id ver j,b=.av (.sub id ver j)/\v=.av (.sub i 0 j)
 |.view i=>∃ id o n,b=.av (.view id o n)/\v=.av (.view i o n)
theorem G3{G:Heap}{sp:SpS}{b:SV}{r:Ty}{k:Option r.den}{y:(sp.tys r).den}(h:sp.ext G b r k=some y):k=some (sp.inj r y).2/\w9 G sp b (sp.inj r y).1:=by
 have atom {x:SpA} (hx:∀ τ,x≠.val τ) (hu:x≠.u) {y:((SpS.av x).tys r).den} (h:(SpS.av x).ext G b r k=some y):∃ b',b=.av b'/\x.ext G b' r k=some y:=by
  cases x with
  |val τ=>exact absurd rfl (hx τ)
  |u=>exact absurd rfl hu
  |_=>
   cases b with
   |av b'=>exact⟨b',rfl,h⟩
   |agg _=>simp[SpS.ext]at h
   |tup _=>simp[SpS.ext]at h
 cases sp with
 |av x=>
  cases x with
  |val τ=>
   unfold SpS.ext at h;dsimp only at h;split at h
   ·rename_i z q hz;have:=B7 h;subst this;exact⟨rfl,z,rfl,hz⟩
   simp at h
  |u=>
   have h:k=some y:=by cases b<;>exact h
   exact⟨h,rfl⟩
  |undef=>obtain⟨b',rfl,h⟩:=atom (by simp) (by simp) h;obtain⟨h1,h2⟩:=fQ (sp:=.undef) h;exact⟨h1,b',_,rfl,rfl,h2⟩
  |nils=>obtain⟨b',rfl,h⟩:=atom (by simp) (by simp) h;obtain⟨h1,h2⟩:=fQ (sp:=.nils) h;exact⟨h1,b',_,rfl,rfl,h2⟩
  |own i=>obtain⟨b',rfl,h⟩:=atom (by simp) (by simp) h;obtain⟨h1,h2⟩:=fQ (sp:=.own i) h;exact⟨h1,b',_,rfl,rfl,h2⟩
  |ownd i=>obtain⟨b',rfl,h⟩:=atom (by simp) (by simp) h;obtain⟨h1,h2⟩:=fQ (sp:=.ownd i) h;exact⟨h1,b',_,rfl,rfl,h2⟩
  |ownm i=>obtain⟨b',rfl,h⟩:=atom (by simp) (by simp) h;obtain⟨h1,h2⟩:=fQ (sp:=.ownm i) h;exact⟨h1,b',_,rfl,rfl,h2⟩
  |ptr i o=>obtain⟨b',rfl,h⟩:=atom (by simp) (by simp) h;obtain⟨h1,h2⟩:=fQ (sp:=.ptr i o) h;exact⟨h1,b',_,rfl,rfl,h2⟩
  |clo f c=>obtain⟨b',rfl,h⟩:=atom (by simp) (by simp) h;obtain⟨h1,h2⟩:=fQ (sp:=.clo f c) h;exact⟨h1,b',_,rfl,rfl,h2⟩
 |agg l=>
  cases b with
  |agg bs=>obtain⟨h1,h2⟩:=nD (l:=l) h;exact⟨h1,bs,_,rfl,rfl,h2⟩
  |av _=>simp[SpS.ext]at h
  |tup _=>simp[SpS.ext]at h
 |sub i=>
  cases b with
  |agg _=>simp[SpS.ext]at h
  |tup _=>simp[SpS.ext]at h
  |av b=>
   cases b with
   |sub id ver j=>
    cases k with
    |none=>simp[SpS.ext]at h
    |some z=>simp only[SpS.ext,aw]at h;subst h;exact⟨rfl,id,ver,j,rfl,by show SV.av (.sub i 0 ((j:Int).toNat))=_;rw[J9]⟩
   |_=>simp[SpS.ext]at h
 |view i=>
  cases b with
  |agg _=>simp[SpS.ext]at h
  |tup _=>simp[SpS.ext]at h
  |av b=>
   cases b with
   |view id o n=>
    cases k with
    |none=>simp[SpS.ext]at h
    |some z=>simp only[SpS.ext,aw]at h;subst h;exact⟨rfl,id,o,n,rfl,by show SV.av (.view i ((o:Int).toNat) ((n:Int).toNat))=_;rw[J9,J9]⟩
   |_=>simp[SpS.ext]at h
theorem yJ{G:Heap}{e:Env}:∀{l:List (Nat×SpS)} {y:(iM l).den},sx G e l=some y->Rel2 (λp q=>p.1=q.1/\w9 G p.2 (e.get p.1) q.2) l (sf l y)
 |[],_,_=>trivial
 |p::l,y,h=>by simp only[sx]at h;obtain⟨h1,h2⟩:=G3 h;exact⟨⟨rfl,h2⟩,yJ h1⟩
def vV(G:Heap)(R:Ren)(i:Nat)(sp:SpO)(o:Obj):Prop:=match sp with
 |.arr τ=>∃ x,o=.arr τ x/\cY G τ (R.get i)=some x
 |.deep τ=>∃ x,o=.deep 0 τ x none/\cz G τ (R.get i)=some x
 |.map k v=>∃ x,o=.map k v x/\fI G k v (R.get i)=some x
 |.box l=>∃ j c as,o=.box as/\R.get i=some (.own j)/\G.get j=some (.box c)/\rm G l c as
theorem EX{G:Heap}{R:Ren}{i:Nat}{sp:SpO}{r:Ty}{k:Option r.den}{y:(sp.tys r).den}(h:sp.ext G R i r k=some y):k=some (sp.inj r y).2/\vV G R i sp (sp.inj r y).1:=by
 cases sp with
 |arr τ=>
  unfold SpO.ext at h;dsimp only at h;split at h
  ·rename_i z q hz;have:=B7 h;subst this;exact⟨rfl,z,rfl,hz⟩
  simp at h
 |deep τ=>
  unfold SpO.ext at h;dsimp only at h;split at h
  ·rename_i z q hz;have:=B7 h;subst this;exact⟨rfl,z,rfl,hz⟩
  simp at h
 |map κ v=>
  unfold SpO.ext at h;dsimp only at h;split at h
  ·rename_i z q hz;have:=B7 h;subst this;exact⟨rfl,z,rfl,hz⟩
  simp at h
 |box l=>
  unfold SpO.ext at h;dsimp only at h;split at h
  ·rename_i j hj;split at h
   ·rename_i c hc;obtain⟨h1,h2⟩:=nD (l:=l) h;exact⟨h1,j,c,_,rfl,hj,hc,h2⟩
   simp at h
  simp at h
theorem uE{G:Heap}{R:Ren}:∀{l:List (Nat×SpO)} {r:Ty} {k:Option r.den} {y:(mB l r).den},pb G R l r k=some y->k=some (ni l r y).2/\Rel2 (λp q=>p.1=q.1/\vV G R p.1 p.2 q.2) l (ni l r y).1
 |[],_,_,_,h=>⟨h,trivial⟩
 |p::l,r,k,y,h=>by simp only[pb]at h;obtain⟨h1,h2⟩:=EX h;obtain⟨h3,h4⟩:=uE h1;exact⟨h3,⟨rfl,h2⟩,h4⟩
theorem xH{l:List (Nat×SpO)}{G:Heap}{r:Nat->SpO->Obj->Prop}(h:Rel2 (λp q=>p.1=q.1/\r p.1 p.2 q.2) l G):∀{i:Nat} {o:Obj},G.get i=some o->∃ sp,(i,sp)∈l/\r i sp o:=by
 induction l generalizing G with
 |nil=>cases G with
  |nil=>intro i o h;simp[Heap.get_nil0,Heap.get_pair]at h
  |cons _ _=>exact h.elim
 |cons p l ih=>cases G with
  |nil=>exact h.elim
  |cons q G=>
   obtain⟨k,v⟩:=q;obtain⟨⟨h1,h2⟩,h3⟩:=h;intro i o hg;rw[Heap.get_cons]at hg;split at hg
   ·rename_i e;simp only[aw]at hg;subst hg;subst e;simp only at h1;exact⟨p.2,by simp[<- h1],h1▸h2⟩
   obtain⟨sp,a1,a2⟩:=ih h3 hg;exact⟨sp,by simp[a1],a2⟩
theorem x9{l:List (Nat×SpO)}{G:Heap}{r:Nat->SpO->Obj->Prop}(h:Rel2 (λp q=>p.1=q.1/\r p.1 p.2 q.2) l G)(hn:aH (l.map (·.1))=true):∀{i:Nat} {sp:SpO},(i,sp)∈l->∃ o,G.get i=some o/\r i sp o:=by
 induction l generalizing G with
 |nil=>intro i sp h;simp at h
 |cons p l ih=>cases G with
  |nil=>exact h.elim
  |cons q G=>
   obtain⟨k,v⟩:=q;obtain⟨⟨h1,h2⟩,h3⟩:=h;simp only[JA]at hn;obtain⟨n1,n2⟩:=dM hn;intro i sp hm;rcases A8.1 hm with e|hm
   ·subst e;simp only at h1 h2;exact⟨v,by rw[Heap.get_cons,if_pos h1.symm],h2⟩
   obtain⟨o,a1,a2⟩:=ih h3 n2 hm;refine⟨o,?_,a2⟩;rw[Heap.get_cons,if_neg]
   ·exact a1
   intro e;simp only at h1;rw[<- h1]at e;exact n1 (by rw[e];exact KW.2 ⟨_,hm,rfl⟩)
theorem EU{l:List (Nat×SpS)}{e:Env}{r:Nat->SpS->SV->Prop}(h:Rel2 (λp q=>p.1=q.1/\r p.1 p.2 q.2) l e)(t:Nat):e.get t=.av .u\/∃ sp,(t,sp)∈l/\r t sp (e.get t):=by
 induction l generalizing e with
 |nil=>cases e with
  |nil=>exact .inl rfl
  |cons _ _=>exact h.elim
 |cons p l ih=>cases e with
  |nil=>exact h.elim
  |cons q e=>
   obtain⟨k,v⟩:=q;obtain⟨⟨h1,h2⟩,h3⟩:=h;rw[Env.get_cons];split
   ·rename_i ek;subst ek;simp only at h1;exact .inr ⟨p.2,by simp[<- h1],h1▸h2⟩
   rcases ih h3 with h|⟨sp,a1,a2⟩
   ·exact .inl h
   exact .inr ⟨sp,by simp[a1],a2⟩
theorem Rel2.mono_mem{α β:Type}{r s:α->β->Prop}:∀{l:List α} {k:List β},(∀ a b,b∈k->r a b->s a b)->Rel2 r l k->Rel2 s l k
 |[],[],_,_=>trivial
 |[],_::_,_,h=>h.elim
 |_::_,[],_,h=>h.elim
 |_::_,_::_,hr,h=>⟨hr _ _ (by simp) h.1,Rel2.mono_mem (λa b hb=>hr a b (by simp[hb])) h.2⟩
structure Laid (m m':Mem)(R:Ren)(ρ:Nat->Value)(objs:List (Nat×SpO)):Prop where
 w:m'.w=m.w
 F:∀ b,m.F b->m'.F b
 thru:∀ id b,id∉R.ids->Blk m id b->m'.F b
 ren:ga m R ρ
 ι:∀ i,m'.ι i=match R.get i with|some (.own j)=>m.ι j|_=>ρ i
 has:∀ i sp,(i,sp)∈objs->∃ o,m'.G.get i=some o/\vV m.G R i sp o
theorem lj{k:Nat}{i:Nat}{l:List (Nat×SpO)}(h:e8 k i l=true):∃ sp,(i,sp)∈l/\sp.kind=k:=by unfold e8 at h;rw[KM]at h;obtain⟨p,hp,hh⟩:=h;simp only[np]at hh;have:=A3 hh.1;subst this;exact⟨p.2,hp,A3 hh.2⟩
variable {m':Mem}{R:Ren}{ρ:Nat->Value}{objs:List (Nat×SpO)}
theorem Laid.arr(h:Laid m m' R ρ objs){i:Nat}(hw:e8 0 i objs=true):∃ τ x,m'.G.get i=some (.arr τ x)/\cY m.G τ (R.get i)=some x:=by
 obtain⟨sp,h1,h2⟩:=lj hw;obtain⟨o,h3,h4⟩:=h.has i sp h1;cases sp with
 |arr τ=>obtain⟨x,rfl,h5⟩:=h4;exact⟨τ,x,h3,h5⟩
 |_=>simp[SpO.kind]at h2
theorem Laid.box(h:Laid m m' R ρ objs){i:Nat}(hw:e8 1 i objs=true):∃ as j c,m'.G.get i=some (.box as)/\R.get i=some (.own j)/\m.G.get j=some (.box c):=by
 obtain⟨sp,h1,h2⟩:=lj hw;obtain⟨o,h3,h4⟩:=h.has i sp h1;cases sp with
 |box l=>obtain⟨j,c,as,rfl,h5,h6,_⟩:=h4;exact⟨as,j,c,h3,h5,h6⟩
 |_=>simp[SpO.kind]at h2
theorem Laid.deep(h:Laid m m' R ρ objs){i:Nat}(hw:e8 2 i objs=true):∃ τ x,m'.G.get i=some (.deep 0 τ x none)/\cz m.G τ (R.get i)=some x:=by
 obtain⟨sp,h1,h2⟩:=lj hw;obtain⟨o,h3,h4⟩:=h.has i sp h1;cases sp with
 |deep τ=>obtain⟨x,rfl,h5⟩:=h4;exact⟨τ,x,h3,h5⟩
 |_=>simp[SpO.kind]at h2
theorem Laid.map(h:Laid m m' R ρ objs){i:Nat}(hw:e8 3 i objs=true):∃ k v x,m'.G.get i=some (.map k v x)/\fI m.G k v (R.get i)=some x:=by
 obtain⟨sp,h1,h2⟩:=lj hw;obtain⟨o,h3,h4⟩:=h.has i sp h1;cases sp with
 |map k v=>obtain⟨x,rfl,h5⟩:=h4;exact⟨k,v,x,h3,h5⟩
 |_=>simp[SpO.kind]at h2
theorem Laid.thruIds(h:Laid m m' R ρ objs){ids:List Nat}(hn:∀ i∈ids,i∉R.ids){b:Nat}(hb:Thru m ids b):m'.F b:=by
 rcases hb with hb|⟨id,hid,hb⟩
 ·exact h.F b hb
 exact h.thru id b (hn id hid) hb
theorem jd(hi:Inv C w0 M m)(h:Laid m m' R ρ objs){u:Value}{b a':Atom}{sp:SpA}(hl:DZ m.G sp b a')(hr:ai m u b)(hA:AtomR m R ρ u sp)(hw:sp.wf objs=true)(hf:∀ i∈sp.froz b,i∉R.ids):ai m' u a':=by
 cases sp with
 |val τ=>obtain⟨x,rfl,hx⟩:=hl;refine⟨(cv hi hx hr).mono λbl hb=>⟨h.thruIds hf hb,by rw[h.w]⟩,?_⟩;simpa[SpA.wf]using hw
 |u=>obtain rfl:=hl;trivial
 |undef=>obtain⟨rfl,rfl⟩:=hl;exact hr
 |nils=>obtain⟨rfl,d,rfl⟩:=hl;obtain⟨ad,h0,_⟩:=hr;exact⟨ad,h0,by simp⟩
 |own i=>
  obtain rfl:=hl;obtain⟨τ,x,h1,h2⟩:=h.arr hw;obtain⟨h3,src,h4,h5⟩:=hA;refine⟨h3,_,h1,λ_=>?_⟩;rw[h.ι i,h4];rw[h4]at h2;have hreal:=h.ren i src h4;cases src with
  |nil=>
   rcases h5 with h5|⟨j,h5,_⟩
   ·exact h5
   cases h5
  |own j=>
   have hal:gC m j:=by
    simp only[cY]at h2;split at h2
    ·rename_i σ l hg;exact⟨_,hg,rfl⟩
    simp at h2
   rcases h5 with h5|⟨j',h5,h6⟩
   ·rw[h5];exact hreal hal
   cases h5;exact absurd hal h6
  |view j o n=>
   rcases h5 with h5|⟨j',h5,_⟩
   ·exact h5
   cases h5
  |nild=>simp[cY]at h2
 |ownm i=>
  obtain rfl:=hl;obtain⟨k,v,x,h1,h2⟩:=h.map hw;obtain⟨h3,j,h4,h5⟩:=hA;refine⟨h3,_,h1,?_⟩;show u=m'.ι i;rw[h.ι i,h4];rw[h4]at h2;have hal:gC m j:=by
   simp only[fI]at h2;split at h2
   ·rename_i hg;exact⟨_,hg,rfl⟩
   simp at h2
  rcases h5 with h5|h5
  ·rw[h5];exact h.ren i _ h4 hal
  exact absurd hal h5
 |ownd i=>
  obtain rfl:=hl;obtain⟨τ,x,h1,h2⟩:=h.deep hw;obtain⟨h3,src,h4,h5⟩:=hA;refine⟨h3,_,h1,?_⟩;show ∃ us,m'.ι i=.tuple us/\us[0]?=some u;rw[h.ι i,h4];rw[h4]at h2;have hreal:=h.ren i src h4;cases src with
  |nild=>
   rcases h5 with h5|⟨j,h5,_⟩
   ·exact h5
   cases h5
  |own j=>
   have hal:gC m j:=by
    simp only[cz]at h2;split at h2
    ·rename_i hg;exact⟨_,hg,rfl⟩
    simp at h2
   rcases h5 with h5|⟨j',h5,h6⟩
   ·have e:ρ i=m.ι j:=hreal hal;simp only;rw[<- e];exact h5
   cases h5;exact absurd hal h6
  |nil=>simp[cz]at h2
  |view j o n=>simp[cz]at h2
 |ptr i o=>obtain rfl:=hl;obtain⟨as,j,c,h1,h2,h3⟩:=h.box hw;obtain⟨j',h4,h5,o',h6,h7⟩:=hA;rw[h2]at h4;simp only[aw,Src.own.injEq]at h4;subst h4;rw[h3]at h6;simp only[aw]at h6;subst h6;refine⟨h5,_,h1,?_⟩;rw[h.ι i,h2];exact h7
 |clo f c=>
  obtain⟨rfl,rfl⟩:=hl;obtain⟨vs,h1,h2⟩:=hr;refine⟨vs,h1,Rel2.mono_mem ?_ h2⟩;rintro v i hic ⟨o,h3,h4⟩;have hwi:e8 1 i objs=true:=by simp only[SpA.wf,B5]at hw;exact hw i hic
  obtain⟨as,j,c',k1,k2,k3⟩:=h.box hwi;have hRi:=hA i hic;rw[k2]at hRi;simp only[aw,Src.own.injEq]at hRi;subst hRi;rw[k3]at h3;simp only[aw]at h3;subst h3;refine⟨_,k1,?_⟩;rw[h.ι,k2];exact h4
theorem nC(hi:Inv C w0 M m)(h:Laid m m' R ρ objs):∀{us:List Value} {bs as:List Atom} {l:List SpA},rm m.G l bs as->Rel2 (ai m) us bs->Rel2 (AtomR m R ρ) us l->(l.all λx=>x.wf objs)=true->(∀ i∈SpA.frozL l bs,i∉R.ids)->Rel2 (ai m') us as
 |[],bs,as,[],hl,_,_,_,_=>by unfold rm at hl;subst hl;trivial
 |[],_,_,_::_,_,_,h,_,_=>h.elim
 |_::_,_,_,[],_,_,h,_,_=>h.elim
 |_::_,[],_,_::_,_,h,_,_,_=>h.elim
 |_::_,_::_,[],_::_,h,_,_,_,_=>h.elim
 |u::us,b::bs,y::as,x::l,hl,hr,hA,hw,hf=>by simp only[Lz,np]at hw;exact⟨jd hi h hl.1 hr.1 hA.1 hw.1 (λi hi'=>hf i (by simp[SpA.frozL,hi'])),nC hi h hl.2 hr.2 hA.2 hw.2 (λi hi'=>hf i (by simp[SpA.frozL,hi']))⟩
theorem yM(hi:Inv C w0 M m)(h:Laid m m' R ρ objs){u:Value}{b v:SV}{sp:SpS}(hl:w9 m.G sp b v)(hr:RelSV m u b)(hA:SvR m R ρ u sp)(hw:sp.wf objs=true)(hf:∀ i∈sp.froz m.G b,i∉R.ids)(hk:sp.look m.G R b=true):RelSV m' u v:=by
 have atom {x:SpA} {b' a':Atom} (hv:∀ τ,x≠.val τ) (hl:DZ m.G x b' a') (hr:RelSV m u (.av b')) (hA:AtomR m R ρ u x) (hw:x.wf objs=true):RelSV m' u (.av a'):=by
  have hnv:x≠.u->∀ τ y,b'=.val τ y->∃ i,x=.own i\/x=.ownd i\/x=.ownm i\/∃ o,x=.ptr i o:=by
   intro hu τ y e;subst e;cases x with
   |val τ=>exact absurd rfl (hv τ)
   |u=>exact absurd rfl hu
   |undef=>obtain⟨_,h⟩:=hl;cases h
   |nils=>obtain⟨_,_,h⟩:=hl;cases h
   |own i=>exact⟨i,.inl rfl⟩
   |ownd i=>exact⟨i,.inr (.inl rfl)⟩
   |ownm i=>exact⟨i,.inr (.inr (.inl rfl))⟩
   |ptr i o=>exact⟨i,.inr (.inr (.inr ⟨o,rfl⟩))⟩
   |clo f c=>obtain⟨_,h⟩:=hl;cases h
  refine RelSV.of_atom ?_;have hfz:∀ b':Atom,∀ i∈x.froz b',i∉R.ids:=by
   intro b' i hi';cases x with
   |val τ=>exact absurd rfl (hv τ)
   |_=>simp[SpA.froz]at hi'
  by_cases hval:∃ τ y,b'=.val τ y
  ·obtain⟨τ,y,rfl⟩:=hval;cases x with
   |val τ=>exact absurd rfl (hv τ)
   |u=>obtain rfl:=hl;trivial
   |undef=>obtain⟨_,h⟩:=hl;cases h
   |nils=>obtain⟨_,_,h⟩:=hl;cases h
   |clo f c=>obtain⟨_,h⟩:=hl;cases h
   |own i=>exact jd hi h (b:=.u) hl trivial hA hw (hfz _)
   |ownd i=>exact jd hi h (b:=.u) hl trivial hA hw (hfz _)
   |ownm i=>exact jd hi h (b:=.u) hl trivial hA hw (hfz _)
   |ptr i o=>exact jd hi h (b:=.u) hl trivial hA hw (hfz _)
  exact jd hi h hl ((ao (λτ y e=>hval ⟨τ,y,e⟩)).1 hr) hA hw (hfz _)
 cases sp with
 |av x=>
  cases x with
  |val τ=>obtain⟨x,rfl,hx⟩:=hl;obtain⟨cs,h1,h2⟩:=db hi hx hr;exact⟨cs,h1,h2.mono λbl hb=>⟨h.thruIds hf hb,by rw[h.w]⟩⟩
  |u=>obtain rfl:=hl;trivial
  |undef=>obtain⟨b',a',rfl,rfl,hl⟩:=hl;exact atom (x:=.undef) (by simp) hl hr hA hw
  |nils=>obtain⟨b',a',rfl,rfl,hl⟩:=hl;exact atom (x:=.nils) (by simp) hl hr hA hw
  |own i=>obtain⟨b',a',rfl,rfl,hl⟩:=hl;exact atom (x:=.own i) (by simp) hl hr hA hw
  |ownd i=>obtain⟨b',a',rfl,rfl,hl⟩:=hl;exact atom (x:=.ownd i) (by simp) hl hr hA hw
  |ownm i=>obtain⟨b',a',rfl,rfl,hl⟩:=hl;exact atom (x:=.ownm i) (by simp) hl hr hA hw
  |ptr i o=>obtain⟨b',a',rfl,rfl,hl⟩:=hl;exact atom (x:=.ptr i o) (by simp) hl hr hA hw
  |clo f c=>obtain⟨b',a',rfl,rfl,hl⟩:=hl;exact atom (x:=.clo f c) (by simp) hl hr hA hw
 |agg l=>
  obtain⟨bs,as,rfl,rfl,hl⟩:=hl;obtain⟨us,h1,h2,h3⟩:=hr;obtain⟨us',h1',h2',h3'⟩:=hA;have:us=us':=by rw[h1]at h1';simpa using h1'
  subst this;exact⟨us,h1,h2,nC hi h hl h3 h3' hw hf⟩
 |sub i=>
  obtain⟨id,ver,j,rfl,rfl⟩:=hl;refine RelSV.of_atom ?_;obtain⟨h1,o,h2,h3⟩:=(ao (by intros;simp)).1 hr;simp only[SpS.look,np]at hk;obtain⟨k1,k2⟩:=hk;have hR:R.get i=some (.own id):=by
   split at k1
   ·rename_i j' hj;rw[hj,A3 k1]
   cases k1
  rw[h2]at k2;obtain⟨τ,x,q1,q2⟩:=h.deep (show e8 2 i objs=true from hw);rw[hR]at q2;simp only[cz,h2]at q2;split at k2
  ·rename_i ver' σ l hg;cases hg;have hv:=A3 k2;subst hv;obtain⟨he,hx⟩:=aD q2;simp only[Ty.slice.injEq]at he;subst he;subst hx;obtain⟨_,h3⟩:=h3;obtain⟨r1,_,us,r2,r3⟩:=h3 rfl;refine⟨h1,_,q1,B2 _,λ_=>⟨r1,rfl,us,?_,r3⟩⟩;rw[h.ι i,hR];exact r2
  cases k2
 |view i=>
  obtain⟨id,off,n,rfl,rfl⟩:=hl;refine RelSV.of_atom ?_;obtain⟨h1,o,h2,h3⟩:=(ao (by intros;simp)).1 hr;simp only[SpS.look]at hk;have hR:R.get i=some (.own id):=by
   split at hk
   ·rename_i j' hj;rw[hj,A3 hk]
   cases hk
  obtain⟨τ,x,q1,q2⟩:=h.arr (show e8 0 i objs=true from hw);rw[hR]at q2;simp only[cY,h2]at q2;cases o with
  |arr σ l=>simp only at q2;obtain⟨he,hx⟩:=aD q2;cases he;subst hx;obtain⟨r1,r2⟩:=h3;refine⟨h1,_,q1,r1,?_⟩;rw[h.ι i,hR];exact r2
  |_=>simp at q2
end
end Go.Vm

