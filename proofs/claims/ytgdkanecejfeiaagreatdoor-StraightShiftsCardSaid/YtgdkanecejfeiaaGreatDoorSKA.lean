/-
 Rotation systems: valid ones, faces, components.
-/
import Derived.Test.YtgdkanecejfeiaaGreatDoorSD70
import Derived.Test.YtgdkanecejfeiaaGreatDoorSVmD
import Derived.KernelRfl
open Option renaming bind_some→gr,map_some→Mn,getD_some→Nl
open Option.some renaming injEq→A1,inj→B4
open List renaming getElem?_eq_getElem→A2,getElem?_eq_some_iff→A3,replicate→A6,mem_append→B1,mem_of_getElem?→B2,mem_cons→B3,getD_eq_getElem?_getD→B5,length_cons→La,range→Le,getElem_mem→Lk,getElem?_set→Lm,getElem?_cons_zero→Lt,length_append→Lu,mem_singleton→LD,length_nil→LG,append_assoc→LH,mem_iff_getElem?→LM,nil_append→LW,getElem?_replicate→L3,any_eq_false→L4,mem_range→Ma,nodup_append→Mi,getElem_of_mem→Mj,map_append→ME,mem_flatten→MH,length_singleton→ML,sublist_flatten_of_mem→MN,mem_map→MO,countP_le_length→M3,nodup_cons→Nf,flatten_cons→NR,pairwise_map→NW,range_succ→N2,nodup_nil→N9,countP_eq_length→Ok,countP_eq_zero→Ow,Nodup→OE,countP_congr→OJ,drop→Pd
open Nat renaming le_refl→A7,zero_add→Ln,eq_or_lt_of_le→LC,le_of_lt_succ→LX,mod_two_eq_zero_or_one→L6,lt_or_ge→Me,mod_lt→MU
open Int renaming toNat_natCast→B8,toNat→Ph
open Sum renaming elim_inl→K7,elim→K8,elim_inr→NF
open Bool renaming not_true→LN,not_false→Oa
open Int.ofNat renaming inj→Ny
open List.Nodup renaming not_mem_erase→Pg
set_option linter.unusedVariables false
set_option linter.unusedSimpArgs false
namespace Go.Vm
open Go.Proofs
set_option maxRecDepth 100000
attribute [local irreducible] aa
abbrev Arc:=Int×(Int×Unit)
abbrev Rot:=Int×(List Arc×(List (List Int)×Unit))
def tl (E:List Arc) (d:Nat):Int:=match E[d / 2]? with
 | some a=>if d % 2=0 then a.1 else a.2.1
 | none=>0
theorem uL (a:Arc) (k:Nat):Zav (a,((k:Int),()))=some (if k=0 then a.1 else a.2.1,()):=by
 unfold Zav
 by_cases h:k=0
 ·subst h; simp [eqI]
 ·simp only
  rw [iz (by omega),if_neg h]; rfl
def di (N:Int) (a:Arc):Bool:=ltI a.1 0 || geI a.1 N || ltI a.2.1 0 || geI a.2.1 N || eqI a.1 a.2.1
def jk (N:Int) (_:Nat) (_:Unit) (a:Arc):Option (Unit⊕Unit):=some (cond (di N a) (.inr ()) (.inl ()))
def dR (E:List Arc) (v:Nat) (_:Nat) (s:List Bool×Int) (d:Int):Option ((List Bool×Int)⊕Unit) :=
 if 0≤d∧d < s.1.length∧s.1[d.toNat]?=some false∧tl E d.toNat=v then some (.inl (s.1.set d.toNat true,aC .i64 s.2 1)) else some (.inr ())
def dC (E:List Arc) (v:Nat) (s:List Bool×Int) (l:List Int):Option ((List Bool×Int)⊕Unit):=ai (dR E v) 0 s l
def oW (E:List Arc) (A:List (List Int)):Option ((List Bool×Int)⊕Unit):=ai (fun v s l=>dC E v s l) 0 (A6 (2 * E.length) false,0) A
def validB (r:Rot):Bool :=
 !(ltI r.1 0) && !(gtI r.1 16384) && !(gtI (r.2.1.length:Nat) 32768) && !(neI (r.2.2.1.length:Nat) r.1) && !(r.2.1.any (di r.1)) &&
  (match oW r.2.1 r.2.2.1 with
  | some (.inl s)=>eqI s.2 (s.1.length:Nat)
  | _=>false)
theorem pc (N:Int):∀ (E:List Arc) (i:Nat),ai (jk N) i () E=some (cond (E.any (di N)) (.inr ()) (.inl ()))
 | [],_=>rfl
 | a :: E,i=>by
  simp only [ai,jk,gr,List.any_cons]
  cases di N a with
  | true=>rfl
  | false=>exact pc N E (i+1)
theorem kB {E:List Arc} {v:Nat} {i:Nat} {s t:List Bool×Int} {d:Int} (h:dR E v i s d=some (.inl t)):t.1.length=s.1.length:=by
 unfold dR at h
 split at h
 ·cases h; simp
 ·cases h
theorem Ch (N:Int) (E:List Arc) (A A':List (List Int)) (c:Int) (v:Nat) (l:List Int) (hE:E.length≤32768) (hl:l.length≤9223372036854775807) (met:List Bool) (n:Int) (hm:met.length=2 * E.length) :
  v9 (N,E,A,met,n,(v:Int),A',c,(v:Int),l,(l.length:Nat),0,()) =
   (dC E v (met,n) l).bind (K8 (fun t=>some (.inr (.inl (N,E,A,t.1,t.2,A',c,(v:Int),())))) (fun _=>some (.inl (false,())))):=by
 refine df (B:=n7) (fun _ s=>s.1.length=2 * E.length) (fun s i=>(N,E,A,s.1,s.2,(v:Int),A',c,(v:Int),l,((l.length:Nat):Int),(i:Int),()))
  (fun s=>.inr (.inl (N,E,A,s.1,s.2,A',c,(v:Int),()))) (fun _=>.inl (false,())) (dR E v) l ?_ ?_ ?_ (met,n) hm
 ·rintro ⟨met,n⟩ i d hs hd
  have hi:i < l.length:=(A3.1 hd).1
  simp only at hs
  simp only [n7]
  rw [aM (by omega),cond_true,aq,hd,gr]
  unfold dR
  by_cases h0:0≤d
  ·rw [aI h0,cond_false]
   by_cases h1:d < met.length
   ·obtain ⟨k,rfl⟩ : ∃ k:Nat,d=k:=⟨d.toNat,by omega⟩
    have hk:k < met.length:=by omega
    rw [lz h1,cond_false,ao hk,gr]
    obtain ⟨b,hb⟩ : ∃ b,met[k]?=some b:=⟨_,A2 hk⟩
    simp only [hb,gr,B8]
    cases b with
    | true=>simp
    | false =>
     have hke:k / 2 < E.length:=by omega
     obtain ⟨a,ha⟩ : ∃ a,E[k / 2]?=some a:=⟨_,A2 hke⟩
     rw [cond_false,Ek (by omega),aq,ha,gr,Gj,uL,gr]
     have ht:tl E k=if k % 2=0 then a.1 else a.2.1:=by simp [tl,ha]
     rw [← ht]
     simp only
     by_cases hv:tl E k=v
     ·rw [fA hv,cond_false,hv,if_pos ⟨by omega,by omega,trivial,rfl⟩,bj (by omega)]
      rfl
     ·rw [ik hv,cond_true,if_neg (by simp [hv])]
      rfl
   ·rw [Bf (by omega),cond_true,if_neg (fun h=>h1 h.2.1)]
    rfl
  ·rw [aM (by omega),cond_true,if_neg (fun h=>h0 h.1)]
   rfl
 ·rintro s i d t hs hd hg
  rw [kB hg]; exact hs
 ·intro s hs
  simp only [n7]
  rw [aI (by omega)]; rfl
theorem lI {E:List Arc} {v:Nat} {l:List Int} {s t:List Bool×Int} (h:dC E v s l=some (.inl t)):t.1.length=s.1.length:=by
 have:=gU (I:=fun _ (u:List Bool×Int)=>u.1.length=s.1.length) (fun u j a t h1 _ h3=>by rw [kB h3]; exact h1) rfl h
 exact this
theorem Cj (N:Int) (E:List Arc) (A:List (List Int)) (hE:E.length≤32768) (hA:A.length≤32768) (hl:∀ l∈A,l.length≤9223372036854775807) :
  uO (N,E,A,A6 (2 * E.length) false,0,A,(A.length:Nat),0,()) =
   (oW E A).bind (K8 (fun t=>some (.inr (.inl (t.1,t.2,())))) (fun _=>some (.inl (false,())))):=by
 refine df (B:=nP) (fun _ s=>s.1.length=2 * E.length) (fun s i=>(N,E,A,s.1,s.2,A,((A.length:Nat):Int),(i:Int),()))
  (fun s=>.inr (.inl (s.1,s.2,()))) (fun _=>.inl (false,())) (fun v s l=>dC E v s l) A ?_ ?_ ?_ (A6 (2 * E.length) false,0) (by simp)
 ·rintro ⟨met,n⟩ i l hs hd
  have hi:i < A.length:=(A3.1 hd).1
  simp only at hs
  simp only [nP]
  rw [aM (by omega),cond_true,aq,hd,gr,Ch N E A A _ i l hE (hl l (B2 hd)) met n hs]
  cases dC E i (met,n) l with
  | none=>rfl
  | some x =>
   cases x with
   | inl t =>
    simp only [gr,K7,NF]
    rw [bj (by omega)]
   | inr e=>rfl
 ·rintro s i d t hs hd hg
  rw [lI hg]; exact hs
 ·intro s hs
  simp only [nP]
  rw [aI (by omega)]; rfl
theorem DK (N:Int) (E:List Arc) (A:List (List Int)) (hE:E.length≤32768) :
  zp (N,E,A,E,(E.length:Nat),0,())=some (cond (E.any (di N)) (.inl (false,())) (.inr (.inl (N,E,A,())))):=by
 have:=mX (B:=sW) (fun (_:Unit) i=>(N,E,A,E,((E.length:Nat):Int),(i:Int),())) (fun _=>.inr (.inl (N,E,A,()))) (fun (_:Unit)=>.inl (false,())) (jk N) E (by
  intro s i a ha
  have hi:i < E.length:=(A3.1 ha).1
  simp only [sW]
  rw [aM (by omega),cond_true,aq,ha,gr,bj (by omega)]
  simp only [jk,di]
  cases ltI a.1 0 <;> cases geI a.1 N <;> cases ltI a.2.1 0 <;> cases geI a.2.1 N <;> cases eqI a.1 a.2.1 <;> rfl) (by
  intro s
  simp only [sW]
  rw [aI (by omega)]; rfl) ()
 rw [pc] at this
 show aa _ _=_
 refine this.trans ?_
 cases E.any (di N) <;> rfl
theorem pC (E:List Arc) (A:List (List Int)):∃ x,oW E A=some x:=by
 have one:∀ v l i s,∃ x,ai (dR E v) i s l=some x:=by
  intro v l
  induction l with
  | nil=>intro i s; exact ⟨_,rfl⟩
  | cons d l ih =>
   intro i s
   simp only [ai]
   unfold dR
   split
   ·exact ih _ _
   ·exact ⟨_,rfl⟩
 have:∀ A i s,∃ x,ai (fun v s l=>dC E v s l) i s A=some x:=by
  intro A
  induction A with
  | nil=>intro i s; exact ⟨_,rfl⟩
  | cons l A ih =>
   intro i s
   simp only [ai]
   obtain ⟨x,hx⟩:=one i l 0 s
   rw [show dC E i s l=some x from hx]
   cases x with
   | inl t=>exact ih _ _
   | inr e=>exact ⟨_,rfl⟩
 exact this A 0 _
theorem kC (r:Rot) (hl:∀ l∈r.2.2.1,l.length≤9223372036854775807):Zao (r,())=some (validB r,()):=by
 obtain ⟨N,E,A,u⟩:=r
 unfold Zao validB
 simp only
 by_cases h0:N < 0
 ·rw [aM h0]; simp
 rw [aI (by omega),cond_false]
 have g0:aL [16384,32768] 0=some (16384:Int):=by decide
 have g1:aL [16384,32768] 1=some (32768:Int):=by decide
 rw [g0,gr]
 by_cases h1:N > 16384
 ·rw [mm h1]; simp
 rw [jp (by omega),cond_false,g1,gr]
 by_cases h2:(E.length:Int) > 32768
 ·rw [mm h2]; simp
 rw [jp (by omega),cond_false]
 by_cases h3:(A.length:Int)=N
 ·rw [fA h3,cond_false,DK N E A (by omega),gr]
  cases h4:E.any (di N) with
  | true=>simp
  | false =>
   simp only [cond_false,NF,K7]
   have e2:jS .i64 2 (E.length:Nat)=((2 * E.length:Nat):Int):=by rw [mQ (by omega) (by omega)]; omega
   rw [e2,dL (A7 _) (by omega),gr]
   rw [show A6 (2 * E.length) (az Ty.bool)=A6 (2 * E.length) false from rfl,Cj N E A (by omega) (by omega) hl]
   obtain ⟨x,hx⟩:=pC E A
   rw [hx]
   cases x with
   | inl t=>simp
   | inr e=>simp
 ·rw [ik h3]; simp
end Go.Vm

namespace Go.Vm
open Go.Proofs
set_option maxRecDepth 100000
attribute [local irreducible] aa
def fo (E:List Arc):List Int:=E.flatMap fun a=>[a.1,a.2.1]
theorem gK:∀ E:List Arc,(fo E).length=2 * E.length
 | []=>rfl
 | a :: E=>by
  have:=gK E
  simp only [fo,List.flatMap_cons,Lu,La,LG] at this ⊢
  omega
theorem ph:∀ (E:List Arc) (d:Nat),d < 2 * E.length→(fo E)[d]?=some (tl E d)
 | [],d,h=>by simp at h
 | a :: E,0,_=>rfl
 | a :: E,1,_=>rfl
 | a :: E,d+2,h=>by
  have:=ph E d (by simp at h; omega)
  have e1:(fo (a :: E))[d+2]?=(fo E)[d]?:=rfl
  have e2:tl (a :: E) (d+2)=tl E d:=by
   unfold tl
   have:(d+2) / 2=d / 2+1:=by omega
   rw [this,List.getElem?_cons_succ]
   have:(d+2) % 2=d % 2:=by omega
   rw [this]
  rw [e1,e2,this]
theorem wW (N:Int) (E:List Arc) (A:List (List Int)) (u:Unit) (hE:E.length≤32768):Zs ((N,E,A,u),())=some (fo E,()):=by
 have key:=df (B:=x6) (ε:=Empty) (fun i (s:List Int)=>s.length=2 * i) (fun s i=>(N,E,A,s,(i:Int),())) (fun s=>.inl (s,())) (fun e=>nomatch e)
  (fun _ s a=>some (.inl (s++[a.1,a.2.1]))) E (by
   intro s i a hs ha
   have hi:i < E.length:=(A3.1 ha).1
   simp only [x6]
   rw [aM (by omega),cond_true,aq,ha,gr,gr,c9 (by simp; omega),gr,bj (by omega)]
   rfl) (by
   intro s i a t hs ha hg
   cases hg
   simp [hs]; omega) (by
   intro s hs
   simp only [x6]
   rw [aI (by omega)]; rfl) [] rfl
 have hf:∀ (l:List Arc) (i:Nat) (s:List Int),ai (ε:=Empty) (fun _ (s:List Int) (a:Arc)=>some (.inl (s++[a.1,a.2.1]))) i s l=some (.inl (s++fo l)):=by
  intro l
  induction l with
  | nil=>intro i s; simp [ai,fo]
  | cons a l ih =>
   intro i s
   simp only [ai,gr,K7]
   rw [ih]
   simp [fo]
 rw [hf] at key
 unfold Zs
 simp only
 rw [show E7 (N,E,A,[],0,())=some (.inl (fo E,())) from key]
 rfl
theorem zk (N:Int) (E:List Arc) (A:List (List Int)) (v:Nat) (l:List Int) (hA:A[v]?=some l) (hE:E.length≤32768) (hl:l.length≤9223372036854775807) (met:List Bool) (n:Int) (hm:met.length=2 * E.length) :
  zP (N,E,A,fo E,met,n,(v:Int),0,()) =
   (dC E v (met,n) l).bind (K8 (fun t=>some (.inr (.inl (N,E,A,fo E,t.1,t.2,(v:Int),())))) (fun _=>some (.inl (false,())))):=by
 refine df (B:=ru) (fun _ s=>s.1.length=2 * E.length) (fun s i=>(N,E,A,fo E,s.1,s.2,(v:Int),(i:Int),()))
  (fun s=>.inr (.inl (N,E,A,fo E,s.1,s.2,(v:Int),()))) (fun _=>.inl (false,())) (dR E v) l ?_ ?_ ?_ (met,n) hm
 ·rintro ⟨met,n⟩ i d hs hd
  have hi:i < l.length:=(A3.1 hd).1
  simp only at hs
  simp only [ru]
  rw [aq,hA,gr,aM (by omega),cond_true,gr,aq,hd,gr]
  unfold dR
  have htl:=gK E
  by_cases h0:0≤d
  ·rw [aI h0,cond_false]
   by_cases h1:d < met.length
   ·obtain ⟨k,rfl⟩ : ∃ k:Nat,d=k:=⟨d.toNat,by omega⟩
    have hk:k < met.length:=by omega
    rw [lz (by omega),cond_false,ao hk,gr]
    obtain ⟨b,hb⟩ : ∃ b,met[k]?=some b:=⟨_,A2 hk⟩
    simp only [hb,gr,B8]
    cases b with
    | true=>simp
    | false =>
     rw [cond_false,ao (by omega),gr,ph E k (by omega),gr]
     by_cases hv:tl E k=v
     ·rw [fA hv,cond_false,hv,if_pos ⟨by omega,by omega,rfl,rfl⟩,gr,bj (by omega)]
      rfl
     ·rw [ik hv,cond_true,if_neg (by simp [hv])]
      rfl
   ·rw [Bf (by omega),cond_true,if_neg (fun h=>h1 h.2.1)]
    rfl
  ·rw [aM (by omega),cond_true,if_neg (fun h=>h0 h.1)]
   rfl
 ·rintro s i d t hs hd hg
  rw [kB hg]; exact hs
 ·intro s hs
  simp only [ru]
  rw [aq,hA,gr,aI (by omega)]; rfl
theorem za (E:List Arc) (A:List (List Int)) (hE:E.length≤32768) (hA:A.length≤32768) (hl:∀ l∈A,l.length≤9223372036854775807) :
  Aa ((A.length:Nat),E,A,fo E,A6 (2 * E.length) false,0,0,()) =
   (oW E A).bind (K8 (fun t=>some (.inr (.inl (fo E,t.2,())))) (fun _=>some (.inl (false,())))):=by
 refine df (B:=rZ) (fun _ s=>s.1.length=2 * E.length) (fun s i=>(((A.length:Nat):Int),E,A,fo E,s.1,s.2,(i:Int),()))
  (fun s=>.inr (.inl (fo E,s.2,()))) (fun _=>.inl (false,())) (fun v s l=>dC E v s l) A ?_ ?_ ?_ (A6 (2 * E.length) false,0) (by simp)
 ·rintro ⟨met,n⟩ i l hs hd
  have hi:i < A.length:=(A3.1 hd).1
  simp only at hs
  simp only [rZ]
  rw [aM (by omega),cond_true,zk _ E A i l hd hE (hl l (B2 hd)) met n hs]
  cases dC E i (met,n) l with
  | none=>rfl
  | some x =>
   cases x with
   | inl t =>
    simp only [gr,K7,NF]
    rw [bj (by omega)]
   | inr e=>rfl
 ·rintro s i d t hs hd hg
  rw [lI hg]; exact hs
 ·intro s hs
  simp only [rZ]
  rw [aI (by omega)]; rfl
theorem Ck (N:Int) (E:List Arc) (A:List (List Int)) (hE:E.length≤32768) :
  EB (N,E,A,0,())=some (cond (E.any (di N)) (.inl (false,())) (.inr (.inl (N,E,A,())))):=by
 have:=mX (B:=yp) (fun (_:Unit) i=>(N,E,A,(i:Int),())) (fun _=>.inr (.inl (N,E,A,()))) (fun (_:Unit)=>.inl (false,())) (jk N) E (by
  intro s i a ha
  have hi:i < E.length:=(A3.1 ha).1
  simp only [yp]
  rw [aM (by omega),cond_true,aq,ha,gr,bj (by omega)]
  simp only [jk,di]
  cases ltI a.1 0 <;> cases geI a.1 N <;> cases ltI a.2.1 0 <;> cases geI a.2.1 N <;> cases eqI a.1 a.2.1 <;> rfl) (by
  intro s
  simp only [yp]
  rw [aI (by omega)]; rfl) ()
 rw [pc] at this
 refine this.trans ?_
 cases E.any (di N) <;> rfl
theorem nm {E:List Arc} {A:List (List Int)} {t:List Bool×Int} (h:oW E A=some (.inl t)):t.1.length=2 * E.length:=by
 have:=gU (I:=fun _ (u:List Bool×Int)=>u.1.length=2 * E.length) (fun u j a t h1 _ h3=>by rw [lI h3]; exact h1) (by simp) h
 exact this
theorem i8 (r:Rot) (hl:∀ l∈r.2.2.1,l.length≤9223372036854775807):Zt (r,())=some (validB r,()):=by
 obtain ⟨N,E,A,u⟩:=r
 unfold Zt validB
 simp only
 by_cases h0:N < 0
 ·rw [aM h0]; simp
 rw [aI (by omega),cond_false]
 by_cases h1:N > 16384
 ·rw [mm h1]; simp
 rw [jp (by omega),cond_false]
 by_cases h2:(E.length:Int) > 32768
 ·rw [mm h2]; simp
 rw [jp (by omega),cond_false]
 by_cases h3:(A.length:Int)=N
 ·rw [fA h3,cond_false,Ck N E A (by omega),gr]
  cases h4:E.any (di N) with
  | true=>simp
  | false =>
   simp only [cond_false,NF,K7]
   have e2:(fo E).length=2 * E.length:=gK E
   rw [wW N E A () (by omega),gr]
   simp only
   rw [e2,dL (A7 _) (by omega),gr]
   rw [show A6 (2 * E.length) (az Ty.bool)=A6 (2 * E.length) false from rfl,← h3,za E A (by omega) (by omega) hl]
   obtain ⟨x,hx⟩:=pC E A
   rw [hx]
   cases x with
   | inl t =>
    have:=nm hx
    simp [e2,this]
   | inr e=>simp
 ·rw [ik h3]; simp
end Go.Vm

namespace Go.Vm
open Go.Proofs
set_option maxRecDepth 100000
attribute [local irreducible] aa
theorem lA:∀ (m:Nat) (l:List Nat),l.Nodup→(∀ x∈l,x < m)→l.length≤m
 | 0,l,_,h=>by
  cases l with
  | nil=>simp
  | cons a l=>have:=h a (by simp); omega
 | m+1,l,hn,h=>by
  by_cases hm:m∈l
  ·have h1:=lA m (l.erase m) (hn.erase m) (fun x hx=>by
    have h2:=h x (List.mem_of_mem_erase hx)
    have h3:x≠m:=fun e=>by subst e; exact (Pg hn) hx
    omega)
   rw [List.length_erase_of_mem hm] at h1
   omega
  ·have:=lA m l hn (fun x hx=>by
    have h2:=h x hx
    have h3:x≠m:=fun e=>hm (e ▸ hx)
    omega)
   omega
structure RotOK (N:Int) (E:List Arc) (A:List (List Int)):Prop where
 n0:0≤N
 n1:N≤16384
 m1:E.length≤32768
 len:(A.length:Int)=N
 edge:∀ a∈E,0≤a.1∧a.1 < N∧0≤a.2.1∧a.2.1 < N∧a.1≠a.2.1
 dart:∀ (v:Nat) (l:List Int),A[v]?=some l→∀ d∈l,∃ k:Nat,d=(k:Int)∧k < 2 * E.length∧tl E k=v
 nodup:A.flatten.Nodup
 all:A.flatten.length=2 * E.length
theorem mK {E:List Arc} {v:Nat}:∀ {l:List Int} {i:Nat} {S:List Int} {met:List Bool} {n:Int} {t:List Bool×Int},met.length=2 * E.length →
  (∀ k:Nat,k < 2 * E.length→(met[k]?=some true↔(k:Int)∈S))→n=S.length→S.Nodup→(∀ d∈S,∃ k:Nat,d=(k:Int)∧k < 2 * E.length)→E.length≤32768 →
  ai (dR E v) i (met,n) l=some (.inl t) →
  (∀ d∈l,∃ k:Nat,d=(k:Int)∧k < 2 * E.length∧tl E k=v)∧(S++l).Nodup∧(∀ k:Nat,k < 2 * E.length→(t.1[k]?=some true↔(k:Int)∈S++l))∧t.2=(S++l).length∧t.1.length=2 * E.length
 | [],i,S,met,n,t,hm,hS,hn,hnd,_,_,h=>by
  simp only [ai] at h
  cases h
  exact ⟨by simp,by simpa using hnd,by simpa using hS,by simpa using hn,hm⟩
 | d :: l,i,S,met,n,t,hm,hS,hn,hnd,hr,hE,h=>by
  simp only [ai] at h
  unfold dR at h
  split at h
  ·rename_i hc
   simp only at hc
   obtain ⟨h0,h1,h2,h3⟩:=hc
   obtain ⟨k,rfl⟩ : ∃ k:Nat,d=k:=⟨d.toNat,by omega⟩
   simp only [B8] at h2 h3 h
   have hk:k < 2 * E.length:=by omega
   have hns:(k:Int)∉S:=fun hin=>by rw [(hS k hk).2 hin] at h2; cases h2
   simp only [gr,K7] at h
   have hnd':(S++[(k:Int)]).Nodup:=by
    rw [Mi]
    exact ⟨hnd,by simp,fun a ha b hb=>by simp at hb; subst hb; exact fun e=>hns (e ▸ ha)⟩
   have hr':∀ d∈S++[(k:Int)],∃ j:Nat,d=(j:Int)∧j < 2 * E.length:=by
    intro d hd
    rcases B1.1 hd with hd | hd
    ·exact hr d hd
    ·simp at hd; exact ⟨k,hd,hk⟩
   have hlen:(S++[(k:Int)]).length≤2 * E.length:=by
    have:=lA (2 * E.length) ((S++[(k:Int)]).map Ph) (by
     rw [OE,NW]
     refine hnd'.imp_of_mem ?_
     intro a b ha hb hab e
     obtain ⟨j,rfl,_⟩:=hr' a ha
     obtain ⟨j',rfl,_⟩:=hr' b hb
     simp at e
     exact hab (by rw [e])) (by
     intro x hx
     obtain ⟨y,hy,rfl⟩:=MO.1 hx
     obtain ⟨j,rfl,hj⟩:=hr' y hy
     simpa using hj)
    simpa using this
   have e2:aC .i64 n 1=((S++[(k:Int)]).length:Int):=by
    rw [hn,bj (by simp at hlen; omega)]; simp
   have:=mK (l:=l) (i:=i+1) (S:=S++[(k:Int)]) (met:=met.set k true) (n:=aC .i64 n 1) (t:=t) (by simpa using hm) (by
    intro j hj
    rw [Lm]
    by_cases e:k=j
    ·subst e
     rw [if_pos rfl,if_pos (by omega)]
     simp
    ·rw [if_neg e,hS j hj]
     simp only [B1,LD]
     exact ⟨.inl,fun h=>h.resolve_right (by omega)⟩) e2 hnd' hr' hE h
   obtain ⟨q1,q2,q3,q4,q5⟩:=this
   rw [LH,List.singleton_append] at q2 q3 q4
   refine ⟨fun d hd=>?_,q2,q3,q4,q5⟩
   rcases B3.1 hd with rfl | hd
   ·exact ⟨k,rfl,hk,h3⟩
   ·exact q1 d hd
  ·cases h
theorem oE {E:List Arc} (hE:E.length≤32768):∀ {A:List (List Int)} {i:Nat} {S:List Int} {met:List Bool} {n:Int} {t:List Bool×Int},met.length=2 * E.length →
  (∀ k:Nat,k < 2 * E.length→(met[k]?=some true↔(k:Int)∈S))→n=S.length→S.Nodup→(∀ d∈S,∃ k:Nat,d=(k:Int)∧k < 2 * E.length) →
  ai (fun v s l=>dC E v s l) i (met,n) A=some (.inl t) →
  (∀ (v:Nat) (l:List Int),A[v]?=some l→∀ d∈l,∃ k:Nat,d=(k:Int)∧k < 2 * E.length∧tl E k=((i+v:Nat):Int))∧(S++A.flatten).Nodup∧(∀ k:Nat,k < 2 * E.length→(t.1[k]?=some true↔(k:Int)∈S++A.flatten))∧t.2=(S++A.flatten).length
 | [],i,S,met,n,t,hm,hS,hn,hnd,_,h=>by
  simp only [ai] at h
  cases h
  exact ⟨by simp,by simpa using hnd,by simpa using hS,by simpa using hn⟩
 | l :: A,i,S,met,n,t,hm,hS,hn,hnd,hr,h=>by
  simp only [ai] at h
  cases hv:dC E i (met,n) l with
  | none=>rw [hv] at h; cases h
  | some x =>
   rw [hv] at h
   cases x with
   | inr e=>cases h
   | inl u =>
    simp only [gr,K7] at h
    obtain ⟨q1,q2,q3,q4,q5⟩:=mK (i:=0) hm hS hn hnd hr hE hv
    obtain ⟨p1,p2,p3,p4⟩:=oE hE (A:=A) (i:=i+1) (S:=S++l) (met:=u.1) (n:=u.2) (t:=t) q5 q3 q4 q2 (by
     intro d hd
     rcases B1.1 hd with hd | hd
     ·exact hr d hd
     ·obtain ⟨k,hk,hk2,_⟩:=q1 d hd; exact ⟨k,hk,hk2⟩) h
    rw [LH] at p2 p3 p4
    refine ⟨?_,by simpa using p2,by simpa using p3,by simpa using p4⟩
    intro v l' hl' d hd
    cases v with
    | zero =>
     simp only [Lt,A1] at hl'
     subst hl'
     exact q1 d hd
    | succ v =>
     obtain ⟨k,k1,k2,k3⟩:=p1 v l' (by simpa using hl') d hd
     exact ⟨k,k1,k2,by rw [k3]; omega⟩
theorem FO {N:Int} {E:List Arc} {A:List (List Int)} {u:Unit} (h:validB (N,E,A,u)=true):RotOK N E A:=by
 unfold validB at h
 simp only [Bool.and_eq_true,Bool.not_eq_true'] at h
 obtain ⟨⟨⟨⟨⟨h0,h1⟩,h2⟩,h3⟩,h4⟩,h5⟩:=h
 have h0:¬ N < 0:=by simpa [ltI] using h0
 have h1:¬ N > 16384:=by simpa [gtI] using h1
 have h2:¬ (E.length:Int) > 32768:=by simpa [gtI] using h2
 have h3:(A.length:Int)=N:=by simpa [neI] using h3
 have hE:E.length≤32768:=by omega
 split at h5
 ·rename_i t ht
  have hl:=nm ht
  obtain ⟨q1,q2,q3,q4⟩:=oE hE (A:=A) (i:=0) (S:=[]) (met:=A6 (2 * E.length) false) (n:=0) (t:=t) (by simp) (by
   intro k hk
   simp [L3,hk]) rfl N9 (by simp) ht
  have h5:t.2=(t.1.length:Int):=by simpa [eqI] using h5
  simp only [LW] at q2 q3 q4
  refine ⟨by omega,by omega,hE,h3,?_,?_,q2,by omega⟩
  ·intro a ha
   have:=L4.1 h4 a ha
   simp only [di,Bool.or_eq_true,not_or] at this
   obtain ⟨⟨⟨⟨e1,e2⟩,e3⟩,e4⟩,e5⟩:=this
   simp only [ltI,geI,eqI,decide_eq_true_eq,beq_iff_eq] at e1 e2 e3 e4 e5
   exact ⟨by omega,by omega,by omega,by omega,e5⟩
  ·intro v l hvl d hd
   obtain ⟨k,k1,k2,k3⟩:=q1 v l hvl d hd
   exact ⟨k,k1,k2,by rw [k3]; omega⟩
 ·cases h5
theorem RotOK.mem {N:Int} {E:List Arc} {A:List (List Int)} (h:RotOK N E A) {k:Nat} (hk:k < 2 * E.length):(k:Int)∈A.flatten:=by
 apply Classical.byContradiction
 intro hn
 have hr:∀ d∈A.flatten,∃ j:Nat,d=(j:Int)∧j < 2 * E.length:=by
  intro d hd
  obtain ⟨l,hl,hdl⟩:=MH.1 hd
  obtain ⟨v,hv⟩:=LM.1 hl
  obtain ⟨j,j1,j2,_⟩:=h.dart v l hv d hdl
  exact ⟨j,j1,j2⟩
 have:=lA (2 * E.length) (k :: A.flatten.map Ph) (by
  rw [Nf]
  refine ⟨fun hin=>?_,?_⟩
  ·obtain ⟨d,hd,e⟩:=MO.1 hin
   obtain ⟨j,rfl,_⟩:=hr d hd
   simp at e
   exact hn (e ▸ hd)
  ·rw [OE,NW]
   refine h.nodup.imp_of_mem ?_
   intro a b ha hb hab e
   obtain ⟨j,rfl,_⟩:=hr a ha
   obtain ⟨j',rfl,_⟩:=hr b hb
   simp at e
   exact hab (by rw [e])) (by
  intro x hx
  rcases B3.1 hx with rfl | hx
  ·exact hk
  ·obtain ⟨y,hy,rfl⟩:=MO.1 hx
   obtain ⟨j,rfl,hj⟩:=hr y hy
   simpa using hj)
 simp only [La,List.length_map] at this
 rw [h.all] at this
 omega
end Go.Vm

namespace Go.Vm
open Go.Proofs
set_option maxRecDepth 100000
attribute [local irreducible] aa
theorem Iz (a b:Nat):kO (a:Int) (b:Int)=((a % b:Nat):Int):=by
 unfold kO
 rw [Int.tmod_eq_emod_of_nonneg (by omega)]; rfl
theorem gT {α : Type} {l:List α} (h:l.Nodup) {i j:Nat} (hi:i < l.length) (hj:j < l.length) (e:l[i]=l[j]):i=j:=by
 rw [OE,List.pairwise_iff_getElem] at h
 apply Classical.byContradiction
 intro hne
 rcases Me i j with hlt | hge
 ·exact h i j hi hj hlt e
 ·exact h j i hj hi (by omega) e.symm
def dY (f:Nat→Nat) (l:List Int):Nat→List Int→Int→Option (List Int⊕Empty):=fun i out d=>some (.inl (out.set (f d.toNat) (l.getD ((i+1) % l.length) 0)))
def KB (f:Nat→Nat) (A:List (List Int)) (out:List Int):Option (List Int⊕Empty):=ai (fun _ out l=>ai (dY f l) 0 out l) 0 out A
theorem nf (f:Nat→Nat) (l out:List Int) (hinj:∀ i j (hi:i < l.length) (hj:j < l.length),f l[i].toNat=f l[j].toNat→i=j) (hlt:∀ d∈l,f d.toNat < out.length) :
  ∃ out',ai (dY f l) 0 out l=some (.inl out')∧out'.length=out.length∧(∀ i (h:i < l.length),out'[f l[i].toNat]?=some (l.getD ((i+1) % l.length) 0)) ∧
   ∀ k,(∀ d∈l,f d.toNat≠k)→out'[k]?=out[k]?:=by
 obtain ⟨t,ht⟩:=uf (g:=dY f l) (l:=l) (i:=0) (s:=out) (fun i out d=>out.set (f d.toNat) (l.getD ((i+1) % l.length) 0)) (fun _ _ _ _=>rfl)
 have:=gU (g:=dY f l) (I:=fun j (o:List Int)=>o.length=out.length∧(∀ i (h:i < l.length),i < j→o[f l[i].toNat]?=some (l.getD ((i+1) % l.length) 0))∧∀ k,(∀ d∈l,f d.toNat≠k)→o[k]?=out[k]?)
  (l:=l) (i:=0) (s:=out) (t:=t) (by
   intro o j d u hI hd hg
   simp only [Ln] at hI hg ⊢
   obtain ⟨h1,h2,h3⟩:=hI
   simp only [dY] at hg
   cases hg
   obtain ⟨hj,hjd⟩:=A3.1 hd
   refine ⟨by simpa using h1,fun i hi hij=>?_,fun k hk=>?_⟩
   ·rw [Lm]
    by_cases e:i=j
    ·subst e
     rw [hjd,if_pos rfl,if_pos (by rw [h1]; exact hlt d (B2 hd))]
    ·rw [if_neg (fun e2=>e (hinj j i hj hi (by rw [hjd]; exact e2)).symm)]
     exact h2 i hi (by omega)
   ·rw [Lm,if_neg (hk d (B2 hd))]
    exact h3 k hk) ⟨rfl,fun i _ h=>by omega,fun _ _=>rfl⟩ ht
 simp only [Ln] at this
 exact ⟨t,ht,this.1,fun i h=>this.2.1 i h h,this.2.2⟩
theorem ls (f:Nat→Nat) (hf:∀ a b,f a=f b→a=b):∀ (A:List (List Int)) (i:Nat) (out:List Int),A.flatten.Nodup→(∀ d∈A.flatten,∃ k:Nat,d=(k:Int))→(∀ d∈A.flatten,f d.toNat < out.length) →
  ∃ out',ai (fun _ out l=>ai (dY f l) 0 out l) i out A=some (.inl out')∧out'.length=out.length∧(∀ l∈A,∀ i (h:i < l.length),out'[f l[i].toNat]?=some (l.getD ((i+1) % l.length) 0)) ∧
   ∀ k,(∀ d∈A.flatten,f d.toNat≠k)→out'[k]?=out[k]?
 | [],i,out,_,_,_=>⟨out,rfl,rfl,by simp,by simp⟩
 | l :: A,i,out,hn,hr,hlt=>by
  rw [NR,Mi] at hn
  obtain ⟨n1,n2,n3⟩:=hn
  have nJ:∀ d∈l,d∈(l :: A).flatten:=fun d hd=>by simp [hd]
  have CL:∀ d∈A.flatten,d∈(l :: A).flatten:=fun d hd=>by simp only [NR,B1]; exact .inr hd
  have feq:∀ a∈(l :: A).flatten,∀ b∈(l :: A).flatten,f a.toNat=f b.toNat→a=b:=by
   intro a ha b hb e
   obtain ⟨j,rfl⟩:=hr a ha
   obtain ⟨j',rfl⟩:=hr b hb
   have:=hf _ _ e
   simp at this
   rw [this]
  obtain ⟨o1,e1,e2,e3,e4⟩:=nf f l out (fun i j hi hj e=>by
   have:=feq _ (nJ _ (Lk hi)) _ (nJ _ (Lk hj)) e
   exact gT n1 hi hj this) (fun d hd=>hlt d (nJ d hd))
  obtain ⟨o2,g1,g2,g3,g4⟩:=ls f hf A (i+1) o1 n2 (fun d hd=>hr d (CL d hd)) (fun d hd=>by rw [e2]; exact hlt d (CL d hd))
  refine ⟨o2,?_,by omega,?_,?_⟩
  ·simp only [ai,e1,gr,K7]; exact g1
  ·intro l' hl' j hj
   rcases B3.1 hl' with rfl | hl'
   ·rw [g4 _ (fun d hd e=>by
     have:=feq _ (CL d hd) _ (nJ _ (Lk hj)) e
     exact n3 _ (Lk hj) d hd this.symm)]
    exact e3 j hj
   ·exact g3 l' hl' j hj
  ·intro k hk
   rw [g4 k (fun d hd=>hk d (CL d hd)),e4 k (fun d hd=>hk d (nJ d hd))]
theorem C1 (l out:List Int) (A A':List (List Int)) (c v:Int) (hl:l.length≤65536) (hr:∀ d∈l,∃ k:Nat,d=(k:Int)∧oth k < out.length∧k < 65536) :
  Az (out,l,A,c,v,l,(l.length:Nat),0,())=(ai (dY oth l) 0 out l).bind (K8 (fun t=>some (.inl (t,A,c,v,()))) (fun e=>nomatch e)):=by
 refine (df (B:=qR) (fun _ o=>o.length=out.length) (fun s i=>(s,l,A,c,v,l,((l.length:Nat):Int),(i:Int),())) (fun s=>.inl (s,A,c,v,())) (fun e=>nomatch e) (dY oth l) l ?_ ?_ ?_ out rfl).trans ?_
 ·intro s i d hs hd
  have hi:i < l.length:=(A3.1 hd).1
  obtain ⟨k,rfl,hk,hk2⟩:=hr d (B2 hd)
  simp only [qR]
  rw [aM (by omega),cond_true,aq,hd,gr,iz (by omega),cond_false,bj (by omega),Iz,aq]
  have hm:(i+1) % l.length < l.length:=MU _ (by omega)
  rw [A2 hm,gr,EC (by omega),ao (by omega),gr]
  obtain ⟨z,hz⟩ : ∃ z,s[oth k]?=some z:=⟨_,A2 (by omega)⟩
  rw [hz,gr]
  simp only [dY,gr,K7,B8]
  rw [B5,A2 hm]
  rfl
 ·intro s i d t hs hd hg
  simp only [dY] at hg
  cases hg; simpa using hs
 ·intro s hs
  simp only [qR]
  rw [aI (by omega)]; rfl
 ·cases ai (dY oth l) 0 out l with
  | none=>rfl
  | some x=>cases x with
   | inl t=>rfl
   | inr e=>exact nomatch e
theorem yU (N:Int) (E:List Arc) (A:List (List Int)) (l out:List Int) (v:Int) (hl:l.length≤65536) (hr:∀ d∈l,∃ k:Nat,d=(k:Int)∧k < out.length) :
  DF (N,E,A,out,v,l,0,())=(ai (dY id l) 0 out l).bind (K8 (fun t=>some (.inl (N,E,A,t,v,()))) (fun e=>nomatch e)):=by
 refine (df (B:=xI) (fun _ o=>o.length=out.length) (fun s i=>(N,E,A,s,v,l,(i:Int),())) (fun s=>.inl (N,E,A,s,v,())) (fun e=>nomatch e) (dY id l) l ?_ ?_ ?_ out rfl).trans ?_
 ·intro s i d hs hd
  have hi:i < l.length:=(A3.1 hd).1
  obtain ⟨k,rfl,hk⟩:=hr d (B2 hd)
  simp only [xI]
  rw [aM (by omega),cond_true,aq,hd,gr,iz (by omega),cond_false,bj (by omega),Iz,aq]
  have hm:(i+1) % l.length < l.length:=MU _ (by omega)
  rw [A2 hm,gr,ao (by omega),gr]
  obtain ⟨z,hz⟩ : ∃ z,s[k]?=some z:=⟨_,A2 (by omega)⟩
  rw [hz,gr]
  simp only [dY,gr,K7,B8,id]
  rw [B5,A2 hm]
  rfl
 ·intro s i d t hs hd hg
  simp only [dY] at hg
  cases hg; simpa using hs
 ·intro s hs
  simp only [xI]
  rw [aI (by omega)]; rfl
 ·cases ai (dY id l) 0 out l with
  | none=>rfl
  | some x=>cases x with
   | inl t=>rfl
   | inr e=>exact nomatch e
section
variable {N:Int} {E:List Arc} {A:List (List Int)}
theorem RotOK.mem_of {N:Int} {E:List Arc} {A:List (List Int)} (h:RotOK N E A) {l:List Int} (hl:l∈A) {d:Int} (hd:d∈l):∃ k:Nat,d=(k:Int)∧k < 2 * E.length:=by
 obtain ⟨v,hv⟩:=LM.1 hl
 obtain ⟨k,k1,k2,_⟩:=h.dart v l hv d hd
 exact ⟨k,k1,k2⟩
theorem RotOK.mem_flat (h:RotOK N E A) {d:Int} (hd:d∈A.flatten):∃ k:Nat,d=(k:Int)∧k < 2 * E.length:=by
 obtain ⟨l,hl,hdl⟩:=MH.1 hd
 exact h.mem_of hl hdl
theorem RotOK.list_len (h:RotOK N E A) {l:List Int} (hl:l∈A):l.length≤2 * E.length:=by
 have h1:=h.all
 have:l.length≤A.flatten.length:=(MN hl).length_le
 omega
structure Fol (f:Nat→Nat) (E:List Arc) (A:List (List Int)) (o:List Int):Prop where
 len:o.length=2 * E.length
 get:∀ l∈A,∀ i (h:i < l.length),o[f l[i].toNat]?=some (l.getD ((i+1) % l.length) 0)
theorem C7 (h:RotOK N E A) (out:List Int) (ho:out.length=2 * E.length):∃ o,uX (out,A,(A.length:Nat),0,())=some (.inl (o,()))∧Fol oth E A o:=by
 have h16:A.length≤16384:=by have:=h.len; have:=h.n1; omega
 have hm1:=h.m1
 obtain ⟨o,e1,e2,e3,_⟩:=ls oth (fun a b e=>by rw [← fi a,e,fi]) A 0 out h.nodup (fun d hd=>by obtain ⟨k,hk,_⟩:=h.mem_flat hd; exact ⟨k,hk⟩) (fun d hd=>by
  obtain ⟨k,rfl,hk⟩:=h.mem_flat hd
  rw [ho]; exact ee (by simpa using hk))
 have key:=df (B:=sb) (ε:=Empty) (fun _ (o:List Int)=>o.length=2 * E.length) (fun s i=>(s,A,((A.length:Nat):Int),(i:Int),())) (fun s=>.inl (s,())) (fun e=>nomatch e) (fun _ out l=>ai (dY oth l) 0 out l) A (by
   intro s i l hs hd
   have hi:i < A.length:=(A3.1 hd).1
   have hl:=B2 hd
   have hll:=h.list_len hl
   simp only [sb]
   rw [aM (by omega),cond_true,aq,hd,gr,C1 l s A A _ _ (by omega) (fun d hd=>by
    obtain ⟨k,rfl,hk⟩:=h.mem_of hl hd
    exact ⟨k,rfl,by rw [hs]; exact ee hk,by omega⟩)]
   cases ai (dY oth l) 0 s l with
   | none=>rfl
   | some x=>cases x with
    | inl t=>simp only [gr,K7]; rw [bj (by omega)]
    | inr e=>exact nomatch e) (by
   intro s i l t hs hd hg
   have hl:=B2 hd
   obtain ⟨o,e1,e2,_⟩:=nf oth l s (fun i j hi hj e=>by
    have e:=(by rw [← fi l[i].toNat,e,fi]:l[i].toNat=l[j].toNat)
    obtain ⟨a,ha,_⟩:=h.mem_of hl (Lk hi)
    obtain ⟨b,hb,_⟩:=h.mem_of hl (Lk hj)
    rw [ha,hb] at e
    simp at e
    have hnd:l.Nodup:=(MN hl).nodup h.nodup
    exact gT hnd hi hj (by rw [ha,hb,e])) (fun d hd=>by
    obtain ⟨k,rfl,hk⟩:=h.mem_of hl hd
    rw [hs]; exact ee (by simpa using hk))
   rw [e1] at hg; cases hg
   omega) (by
   intro s hs
   simp only [sb]
   rw [aI (by omega)]; rfl) out ho
 rw [show ai (fun _ out l=>ai (dY oth l) 0 out l) 0 out A=some (.inl o) from e1] at key
 exact ⟨o,key,by omega,e3⟩
theorem yW (h:RotOK N E A) (out:List Int) (ho:out.length=2 * E.length):∃ o,Br ((A.length:Nat),E,A,out,0,())=some (.inl (o,()))∧Fol id E A o:=by
 have h16:A.length≤16384:=by have:=h.len; have:=h.n1; omega
 have hm1:=h.m1
 obtain ⟨o,e1,e2,e3,_⟩:=ls id (fun a b e=>e) A 0 out h.nodup (fun d hd=>by obtain ⟨k,hk,_⟩:=h.mem_flat hd; exact ⟨k,hk⟩) (fun d hd=>by
  obtain ⟨k,rfl,hk⟩:=h.mem_flat hd
  rw [ho]; simpa using hk)
 have key:=df (B:=yb) (ε:=Empty) (fun _ (o:List Int)=>o.length=2 * E.length) (fun s i=>(((A.length:Nat):Int),E,A,s,(i:Int),())) (fun s=>.inl (s,())) (fun e=>nomatch e) (fun _ out l=>ai (dY id l) 0 out l) A (by
   intro s i l hs hd
   have hi:i < A.length:=(A3.1 hd).1
   have hl:=B2 hd
   have hll:=h.list_len hl
   simp only [yb]
   rw [aM (by omega),cond_true,aq,hd,gr,yU _ E A l s _ (by omega) (fun d hd=>by
    obtain ⟨k,rfl,hk⟩:=h.mem_of hl hd
    exact ⟨k,rfl,by omega⟩)]
   cases ai (dY id l) 0 s l with
   | none=>rfl
   | some x=>cases x with
    | inl t=>simp only [gr,K7]; rw [bj (by omega)]
    | inr e=>exact nomatch e) (by
   intro s i l t hs hd hg
   have hl:=B2 hd
   obtain ⟨o,e1,e2,_⟩:=nf id l s (fun i j hi hj e=>by
    obtain ⟨a,ha,_⟩:=h.mem_of hl (Lk hi)
    obtain ⟨b,hb,_⟩:=h.mem_of hl (Lk hj)
    rw [ha,hb] at e
    simp at e
    have hnd:l.Nodup:=(MN hl).nodup h.nodup
    exact gT hnd hi hj (by rw [ha,hb,e])) (fun d hd=>by
    obtain ⟨k,rfl,hk⟩:=h.mem_of hl hd
    rw [hs]; simpa using hk)
   rw [e1] at hg; cases hg
   omega) (by
   intro s hs
   simp only [yb]
   rw [aI (by omega)]; rfl) out ho
 rw [show ai (fun _ out l=>ai (dY id l) 0 out l) 0 out A=some (.inl o) from e1] at key
 exact ⟨o,key,by omega,e3⟩
theorem lY (h:RotOK N E A) (u:Unit):∃ o,Zam ((N,E,A,u),())=some (o,())∧Fol oth E A o:=by
 have hm1:=h.m1
 unfold Zam
 simp only
 have e2:jS .i64 2 (E.length:Nat)=((2 * E.length:Nat):Int):=by rw [mQ (by omega) (by omega)]; omega
 obtain ⟨o,h1,h2⟩:=C7 h (A6 (2 * E.length) (az (.int .i64))) (by simp)
 rw [e2,dL (A7 _) (by omega),gr]
 refine ⟨o,?_,h2⟩
 rw [show uX (A6 (2 * E.length) (az (.int .i64)),A,(A.length:Nat),0,())=_ from h1]
 rfl
theorem jK (h:RotOK N E A) (u:Unit):∃ o,Zr ((N,E,A,u),())=some (o,())∧Fol id E A o:=by
 have hm1:=h.m1
 unfold Zr
 simp only
 have e2:jS .i64 2 (E.length:Nat)=((2 * E.length:Nat):Int):=by rw [mQ (by omega) (by omega)]; omega
 obtain ⟨o,h1,h2⟩:=yW h (A6 (2 * E.length) (az (.int .i64))) (by simp)
 rw [e2,dL (A7 _) (by omega),gr,← h.len]
 refine ⟨o,?_,h2⟩
 rw [show Br ((A.length:Nat),E,A,A6 (2 * E.length) (az (.int .i64)),0,())=_ from h1]
 rfl
theorem i9 (h:RotOK N E A) {o o':List Int} (h1:Fol oth E A o) (h2:Fol id E A o') {k:Nat} (hk:k < 2 * E.length):∃ y:Nat,y < 2 * E.length∧o[k]?=some (y:Int)∧o'[oth k]?=some (y:Int):=by
 have:=h.mem (ee hk)
 obtain ⟨l,hl,hd⟩:=MH.1 this
 obtain ⟨i,hi,hid⟩:=Mj hd
 have g1:=h1.get l hl i hi
 have g2:=h2.get l hl i hi
 rw [hid] at g1 g2
 simp only [B8,fi,id] at g1 g2
 have hm:(i+1) % l.length < l.length:=MU _ (by omega)
 rw [B5,A2 hm,Nl] at g1 g2
 obtain ⟨y,hy,hy2⟩:=h.mem_of hl (Lk hm)
 rw [hy] at g1 g2
 exact ⟨y,hy2,g1,g2⟩
end
end Go.Vm

namespace Go.Vm
open Go.Proofs
set_option maxRecDepth 100000
attribute [local irreducible] aa
def unm (met:List Bool):Nat:=met.countP fun b=>!b
theorem gH:∀ {met:List Bool} {x:Nat},met[x]?=some false→unm (met.set x true)+1=unm met
 | [],x,h=>by simp at h
 | b :: met,0,h=>by simp at h; subst h; simp [unm]
 | b :: met,x+1,h=>by
  have:=gH (met:=met) (x:=x) (by simpa using h)
  unfold unm at this ⊢
  simp only [List.set_cons_succ,List.countP_cons]
  omega
def mj (nx:List Int):Nat→List Bool→List Int→Int→Option (List Bool×List Int)
 | 0,_,_,_=>none
 | n+1,met,acc,x=>match met[x.toNat]? with
  | some true=>some (met,acc)
  | some false=>match nx[x.toNat]? with
   | some y=>mj nx n (met.set x.toNat true) (acc++[x]) y
   | none=>none
  | none=>none
def pZ (nx:List Int) (L:Nat):Prop:=nx.length=L∧∀ k,k < L→∃ y:Nat,y < L∧nx[k]?=some (y:Int)
theorem ji {nx:List Int} {L:Nat} (hn:pZ nx L):∀ (n:Nat) (met:List Bool) (acc:List Int) (x:Nat),met.length=L→x < L→unm met < n →
  ∃ m f,mj nx n met acc (x:Int)=some (m,acc++f)∧m.length=L∧(∀ d∈f,∃ k:Nat,d=(k:Int)∧k < L∧met[k]?=some false) ∧
   (∀ k:Nat,k < L→(m[k]?=some true↔met[k]?=some true∨(k:Int)∈f))∧f.Nodup∧(met[x]?=some false→(x:Int)∈f)∧(met[x]?=some true→f=[])∧f.length+unm m=unm met
 | 0,_,_,_,_,_,h=>by omega
 | n+1,met,acc,x,hm,hx,hu=>by
  obtain ⟨b,hb⟩ : ∃ b,met[x]?=some b:=⟨_,A2 (by omega)⟩
  cases b with
  | true =>
   refine ⟨met,[],?_,hm,by simp,by simp,N9,by simp [hb],fun _=>rfl,by simp⟩
   simp [mj,hb]
  | false =>
   obtain ⟨y,hy,hny⟩:=hn.2 x hx
   have hus:=gH hb
   obtain ⟨m,f,h1,h2,h3,h4,h5,h6,h7,h8⟩:=ji hn n (met.set x true) (acc++[(x:Int)]) y (by simpa using hm) hy (by omega)
   have hset:∀ k:Nat,k < L→((met.set x true)[k]?=some true↔met[k]?=some true∨k=x):=by
    intro k hk
    rw [Lm]
    by_cases e:x=k
    ·subst e; simp; omega
    ·rw [if_neg e]; simp [Ne.symm e]
   have hsetf:∀ k:Nat,(met.set x true)[k]?=some false→met[k]?=some false∧k≠x:=by
    intro k hk
    rw [Lm] at hk
    by_cases e:x=k
    ·subst e; simp at hk
    ·rw [if_neg e] at hk; exact ⟨hk,Ne.symm e⟩
   refine ⟨m,(x:Int) :: f,?_,h2,?_,?_,?_,by simp,by simp [hb],?_⟩
   ·simp only [mj,B8,hb,hny]
    rw [h1]; simp
   ·intro d hd
    rcases B3.1 hd with rfl | hd
    ·exact ⟨x,rfl,hx,hb⟩
    ·obtain ⟨k,k1,k2,k3⟩:=h3 d hd
     exact ⟨k,k1,k2,(hsetf k k3).1⟩
   ·intro k hk
    rw [h4 k hk,hset k hk]
    simp only [B3]
    constructor
    ·rintro ((h | h) | h)
     ·exact .inl h
     ·exact .inr (.inl (by omega))
     ·exact .inr (.inr h)
    ·rintro (h | h | h)
     ·exact .inl (.inl h)
     ·exact .inl (.inr (by omega))
     ·exact .inr h
   ·rw [Nf]
    refine ⟨fun hin=>?_,h5⟩
    obtain ⟨k,k1,_,k3⟩:=h3 _ hin
    exact (hsetf k k3).2 (by omega)
   ·simp only [La]; omega
theorem pQ {nx:List Int}:∀ (n:Nat) (met:List Bool) (acc:List Int) (x:Nat) (out:List (List Int)) (c d:Int) (r:List Bool×List Int),acc.length+n≤1000000→met.length=nx.length→pZ nx nx.length→x < nx.length →
  mj nx n met acc (x:Int)=some r→va (nx,met,out,acc,(x:Int),c,d,())=some (.inl (nx,r.1,out,r.2,c,d,()))
 | 0,_,_,_,_,_,_,_,_,_,_,_,h=>by simp [mj] at h
 | n+1,met,acc,x,out,c,d,r,hl,hm,hn,hx,h=>by
  obtain ⟨b,hb⟩ : ∃ b,met[x]?=some b:=⟨_,A2 (by omega)⟩
  obtain ⟨y,hy,hny⟩:=hn.2 x hx
  simp only [mj,B8,hb] at h
  cases b with
  | true =>
   cases h
   refine bW ?_
   simp only [oa]
   rw [ao (by omega),gr,hb]
   rfl
  | false =>
   simp only [hny] at h
   have hs:oa (nx,met,out,acc,(x:Int),c,d,())=some (.inl (nx,met.set x true,out,acc++[(x:Int)],(y:Int),c,d,())):=by
    simp only [oa]
    rw [ao (by omega),gr,hb,gr,gr]
    simp only [hb,gr,Oa,cond_true]
    rw [c9 (by simp; omega),gr,ao hx,gr,hny]
    rfl
   refine (cI hs).trans ?_
   exact pQ n (met.set x true) (acc++[(x:Int)]) y out c d r (by simp; omega) (by simpa using hm) hn hy h
theorem x7 (k:Nat) (h:k < 4611686018427387904):Zy ((k:Int),())=some ((oth k:Int),()):=by
 unfold Zy
 simp only
 rw [Gj]
 unfold oth
 by_cases e:k % 2=0
 ·rw [kP (by omega),cond_true,bj (by omega),if_pos e]
 ·rw [iz (by omega),cond_false,nJ (by omega),if_neg e]
  congr 2
  omega
theorem oi {nx fw:List Int} (hfw:fw.length=nx.length) (hb2:∀ k,k < nx.length→fw[oth k]?=nx[k]?) (heven:∀ k,k < nx.length→oth k < nx.length) (hL:nx.length≤100000):∀ (n:Nat) (met:List Bool) (acc:List Int) (x:Nat) (out:List (List Int)) (d:Int) (r:List Bool×List Int),
  acc.length+n≤1000000→met.length=nx.length→pZ nx nx.length→x < nx.length →
  mj nx n met acc (x:Int)=some r→zm (out,fw,met,acc,d,(x:Int),())=some (.inl (out,fw,r.1,r.2,d,()))
 | 0,_,_,_,_,_,_,_,_,_,_,h=>by simp [mj] at h
 | n+1,met,acc,x,out,d,r,hl,hm,hn,hx,h=>by
  obtain ⟨b,hb⟩ : ∃ b,met[x]?=some b:=⟨_,A2 (by omega)⟩
  obtain ⟨y,hy,hny⟩:=hn.2 x hx
  simp only [mj,B8,hb] at h
  cases b with
  | true =>
   cases h
   refine bW ?_
   simp only [rP]
   rw [ao (by omega),gr,hb]
   rfl
  | false =>
   simp only [hny] at h
   have hs:rP (out,fw,met,acc,d,(x:Int),())=some (.inl (out,fw,met.set x true,acc++[(x:Int)],d,(y:Int),())):=by
    simp only [rP]
    rw [ao (by omega),gr,hb,gr,gr]
    simp only [hb,gr,Oa,cond_true]
    rw [c9 (by simp; omega),gr,x7 x (by omega),gr,ao (by rw [hfw]; exact heven x hx),gr,hb2 x hx,hny]
    rfl
   refine (cI hs).trans ?_
   exact oi hfw hb2 heven hL n (met.set x true) (acc++[(x:Int)]) y out d r (by simp; omega) (by simpa using hm) hn hy h
def dq (nx:List Int):Nat→List Bool×List (List Int)→Unit→Option ((List Bool×List (List Int))⊕Empty):=fun d s _ =>
 (mj nx (nx.length+1) s.1 [] (d:Int)).map fun r=>.inl (r.1,cond r.2.isEmpty s.2 (s.2++[r.2]))
structure FacesInv (L:Nat) (d:Nat) (s:List Bool×List (List Int)):Prop where
 len:s.1.length=L
 elem:∀ f∈s.2,f≠[]∧∀ x∈f,∃ k:Nat,x=(k:Int)∧k < L
 met:∀ k:Nat,k < L→(s.1[k]?=some true↔(k:Int)∈s.2.flatten)
 nodup:s.2.flatten.Nodup
 cover:∀ k,k < d→k < L→(k:Int)∈s.2.flatten
 num:s.2.length+unm s.1≤L
theorem pd (met:List Bool):unm met≤met.length:=M3
theorem Bv (L:Nat):unm (A6 L false)=L:=by
 unfold unm
 rw [Ok.2 (fun a ha=>by rw [List.mem_replicate] at ha; simp [ha.2])]
 simp
theorem iB {nx:List Int} (hn:pZ nx nx.length) {d:Nat} (hd:d < nx.length) {s:List Bool×List (List Int)} (hs:FacesInv nx.length d s) :
  ∃ t,dq nx d s ()=some (.inl t)∧FacesInv nx.length (d+1) t:=by
 have hu:=pd s.1
 obtain ⟨m,f,h1,h2,h3,h4,h5,h6,h7,h8⟩:=ji hn (nx.length+1) s.1 [] d hs.len hd (by rw [hs.len] at hu; omega)
 simp only [LW] at h1
 refine ⟨_,by simp only [dq,h1,Mn]; rfl,?_⟩
 have fresh:∀ x∈f,x∉s.2.flatten:=by
  intro x hx hin
  obtain ⟨k,rfl,k2,k3⟩:=h3 x hx
  rw [(hs.met k k2).2 hin] at k3; cases k3
 cases hf:f with
 | nil =>
  subst hf
  have hmd:s.1[d]?=some true:=by
   obtain ⟨b,hb⟩ : ∃ b,s.1[d]?=some b:=⟨_,A2 (by rw [hs.len]; exact hd)⟩
   cases b with
   | true=>exact hb
   | false=>have:=h6 hb; simp at this
  refine ⟨h2,hs.elem,fun k hk=>?_,hs.nodup,fun k hk hkL=>?_,?_⟩
  ·show m[k]?=some true↔_
   rw [h4 k hk,hs.met k hk]; simp
  ·rcases LC (LX hk) with rfl | hlt
   ·exact (hs.met k hkL).1 hmd
   ·exact hs.cover k hlt hkL
  ·have:=hs.num
   simp at h8
   show s.2.length+unm m≤_
   omega
 | cons a f' =>
  rw [← hf]
  have hemp:f.isEmpty=false:=by rw [hf]; rfl
  rw [hemp]
  simp only [cond_false]
  have hflat:(s.2++[f]).flatten=s.2.flatten++f:=by simp
  refine ⟨h2,?_,?_,?_,?_,?_⟩
  ·intro g hg
   rcases B1.1 hg with hg | hg
   ·exact hs.elem g hg
   ·simp only [LD] at hg
    subst hg
    refine ⟨by rw [hf]; simp,fun x hx=>?_⟩
    obtain ⟨k,k1,k2,_⟩:=h3 x hx
    exact ⟨k,k1,k2⟩
  ·intro k hk
   show m[k]?=some true↔_
   rw [h4 k hk,hs.met k hk,hflat,B1]
  ·show (s.2++[f]).flatten.Nodup
   rw [hflat,Mi]
   exact ⟨hs.nodup,h5,fun x hx y hy e=>fresh y hy (e ▸ hx)⟩
  ·intro k hk hkL
   show (k:Int)∈(s.2++[f]).flatten
   rw [hflat,B1]
   rcases LC (LX hk) with rfl | hlt
   ·obtain ⟨b,hb⟩ : ∃ b,s.1[k]?=some b:=⟨_,A2 (by rw [hs.len]; exact hkL)⟩
    cases b with
    | true=>exact .inl ((hs.met k hkL).1 hb)
    | false=>exact .inr (h6 hb)
   ·exact .inl (hs.cover k hlt hkL)
  ·have:=hs.num
   show (s.2++[f]).length+unm m≤_
   rw [hf] at h8
   simp only [Lu,La,LG] at h8 ⊢
   omega
theorem iF (L:Nat):FacesInv L 0 (A6 L false,[]):=by
 refine ⟨by simp,by simp,fun k hk=>?_,by simp,fun k hk=>by omega,?_⟩
 ·simp [L3,hk]
 ·have:=Bv L
  simp [this]
theorem uC {nx:List Int} (hn:pZ nx nx.length):∀ (l:List Unit) (d:Nat) (s:List Bool×List (List Int)),d+l.length=nx.length→FacesInv nx.length d s →
  ∃ t,ai (dq nx) d s l=some (.inl t)∧FacesInv nx.length nx.length t
 | [],d,s,h,hs=>by
  have:d=nx.length:=by simpa using h
  subst this
  exact ⟨s,rfl,hs⟩
 | () :: l,d,s,h,hs=>by
  simp only [La] at h
  obtain ⟨t,h1,h2⟩:=iB hn (by omega:d < nx.length) hs
  obtain ⟨t',h3,h4⟩:=uC hn l (d+1) t (by omega) h2
  exact ⟨t',by simp only [ai,h1,gr,K7]; exact h3,h4⟩
def aN (nx:List Int):List (List Int):=match ai (dq nx) 0 (A6 nx.length false,[]) (A6 nx.length ()) with
 | some (.inl t)=>t.2
 | _=>[]
theorem ft {nx:List Int} (hn:pZ nx nx.length):∃ m,ai (dq nx) 0 (A6 nx.length false,[]) (A6 nx.length ())=some (.inl (m,aN nx))∧FacesInv nx.length nx.length (m,aN nx):=by
 obtain ⟨t,h1,h2⟩:=uC hn (A6 nx.length ()) 0 _ (by simp) (iF nx.length)
 have:aN nx=t.2:=by unfold aN; rw [h1]
 rw [this]
 exact ⟨t.1,h1,h2⟩
theorem zt {nx:List Int} (hL:nx.length≤100000) (hn:pZ nx nx.length):AD (nx,A6 nx.length false,[],(nx.length:Nat),0,())=some (.inl (aN nx,())):=by
 have key:=df (B:=rG) (ε:=Empty) (fun d s=>FacesInv nx.length d s) (fun s i=>(nx,s.1,s.2,((nx.length:Nat):Int),(i:Int),())) (fun s=>.inl (s.2,())) (fun e=>nomatch e) (dq nx) (A6 nx.length ()) (by
   rintro ⟨met,out⟩ d u hs hd
   have hd':d < nx.length:=by have:=(A3.1 hd).1; simpa using this
   have hu:=pd met
   have hml:met.length=nx.length:=hs.len
   obtain ⟨m,f,h1,h2,h3,h4,h5,h6,h7,h8⟩:=ji hn (nx.length+1) met [] d hml hd' (by omega)
   simp only [LW] at h1
   simp only [rG,dq]
   rw [aM (by omega),cond_true,pQ (nx.length+1) met [] d out _ _ (m,f) (by simp; omega) hml hn hd' h1,h1]
   simp only [gr,K7,Mn]
   have hnum:=hs.num
   simp only at hnum
   cases f with
   | nil =>
    rw [jp (by simp)]
    simp only [cond_false,List.isEmpty_nil,cond_true]
    rw [bj (by omega)]
   | cons a f =>
    rw [mm (by simp),cond_true,c9 (by simp only [ML]; omega),gr,bj (by omega)]
    rfl) (by
   rintro s d u t hs hd hg
   have hd':d < nx.length:=by have:=(A3.1 hd).1; simpa using this
   obtain ⟨t',h1,h2⟩:=iB hn hd' hs
   cases u
   rw [h1] at hg; cases hg
   exact h2) (by
   intro s hs
   simp only [rG]
   rw [aI (by simp)]; rfl) (A6 nx.length false,[]) (iF nx.length)
 obtain ⟨m,h1,_⟩:=ft hn
 rw [h1] at key
 exact key
theorem xi {nx fw:List Int} (hfw:fw.length=nx.length) (hb2:∀ k,k < nx.length→fw[oth k]?=nx[k]?) (heven:∀ k,k < nx.length→oth k < nx.length) (hL:nx.length≤100000) (hn:pZ nx nx.length) :
  DA ([],fw,A6 nx.length false,0,())=some (.inl (aN nx,())):=by
 have key:=df (B:=xJ) (ε:=Empty) (fun d s=>FacesInv nx.length d s) (fun s i=>(s.2,fw,s.1,(i:Int),())) (fun s=>.inl (s.2,())) (fun e=>nomatch e) (dq nx) (A6 nx.length ()) (by
   rintro ⟨met,out⟩ d u hs hd
   have hd':d < nx.length:=by have:=(A3.1 hd).1; simpa using this
   have hu:=pd met
   have hml:met.length=nx.length:=hs.len
   obtain ⟨m,f,h1,h2,h3,h4,h5,h6,h7,h8⟩:=ji hn (nx.length+1) met [] d hml hd' (by omega)
   simp only [LW] at h1
   have hnum:=hs.num
   simp only at hnum
   simp only [xJ,dq]
   rw [aM (by omega),cond_true,ao (by omega),gr]
   obtain ⟨b,hb⟩ : ∃ b,met[d]?=some b:=⟨_,A2 (by omega)⟩
   rw [hb,gr]
   cases b with
   | true =>
    have hf:=h7 hb
    subst hf
    have hw:mj nx (nx.length+1) met [] (d:Int)=some (met,[]):=by simp [mj,hb]
    rw [hw,cond_true,bj (by omega)]
    rfl
   | false =>
    rw [cond_false,oi hfw hb2 heven hL (nx.length+1) met [] d out _ (m,f) (by simp; omega) hml hn hd' h1,h1]
    have hne:f≠[]:=fun e=>by have:=h6 hb; rw [e] at this; simp at this
    cases f with
    | nil=>exact absurd rfl hne
    | cons a f =>
     simp only [gr,K7,Mn]
     rw [c9 (by simp only [ML]; omega),gr,bj (by omega)]
     rfl) (by
   rintro s d u t hs hd hg
   have hd':d < nx.length:=by have:=(A3.1 hd).1; simpa using this
   obtain ⟨t',h1,h2⟩:=iB hn hd' hs
   cases u
   rw [h1] at hg; cases hg
   exact h2) (by
   intro s hs
   simp only [xJ]
   rw [aI (by simp [hfw])]; rfl) (A6 nx.length false,[]) (iF nx.length)
 obtain ⟨m,h1,_⟩:=ft hn
 rw [h1] at key
 exact key
section
variable {N:Int} {E:List Arc} {A:List (List Int)}
theorem Fol.nxOK (h:RotOK N E A) {o:List Int} (ho:Fol oth E A o):pZ o o.length:=by
 refine ⟨rfl,fun k hk=>?_⟩
 rw [ho.len] at hk ⊢
 obtain ⟨l,hl,hd⟩:=MH.1 (h.mem (ee hk))
 obtain ⟨i,hi,hid⟩:=Mj hd
 have g1:=ho.get l hl i hi
 rw [hid] at g1
 simp only [B8,fi] at g1
 have hm:(i+1) % l.length < l.length:=MU _ (by omega)
 rw [B5,A2 hm,Nl] at g1
 obtain ⟨y,hy,hy2⟩:=h.mem_of hl (Lk hm)
 rw [hy] at g1
 exact ⟨y,hy2,g1⟩
theorem Ad (h:RotOK N E A) (hv:validB (N,E,A,())=true) (hl:∀ l∈A,l.length≤9223372036854775807):∃ nx m,Zam ((N,E,A,()),())=some (nx,())∧Fol oth E A nx∧FacesInv nx.length nx.length (m,aN nx) ∧
  Zaq ((N,E,A,()),())=some (aN nx,())∧Zx ((N,E,A,()),())=some (aN nx,()):=by
 obtain ⟨nx,e1,f1⟩:=lY h ()
 obtain ⟨fw,e2,f2⟩:=jK h ()
 have hm1:=h.m1
 have hn:=Fol.nxOK h f1
 have hL:nx.length≤100000:=by rw [f1.len]; omega
 obtain ⟨m,_,hi⟩:=ft hn
 refine ⟨nx,m,e1,f1,hi,?_,?_⟩
 ·unfold Zaq
  simp only
  rw [kC (N,E,A,()) hl,hv,gr]
  simp only [LN,cond_false]
  rw [e1,gr]
  simp only
  rw [dL (A7 _) (by omega),gr,show A6 nx.length (az Ty.bool)=A6 nx.length false from rfl,zt hL hn]
  rfl
 ·unfold Zx
  simp only
  rw [i8 (N,E,A,()) hl,hv,gr]
  simp only [LN,cond_false]
  rw [e2,gr]
  simp only
  have hfl:fw.length=nx.length:=by rw [f1.len,f2.len]
  rw [dL (A7 _) (by omega),gr,show A6 fw.length (az Ty.bool)=A6 fw.length false from rfl,hfl,
   xi hfl (fun k hk=>by
    obtain ⟨y,_,y1,y2⟩:=i9 h f1 f2 (k:=k) (by rw [← f1.len]; exact hk)
    rw [y1,y2]) (fun k hk=>by rw [f1.len] at hk ⊢; exact ee hk) hL hn]
  rfl
end
end Go.Vm

namespace Go.Vm
open Go.Proofs
set_option maxRecDepth 100000
attribute [local irreducible] aa
def hd (E:List Arc) (k:Nat):Int:=tl E (oth k)
inductive Reach (E:List Arc):Nat→Nat→Prop
 | refl (v:Nat):Reach E v v
 | step {u v w k:Nat} (h:Reach E u v) (hk:k < 2 * E.length) (h1:tl E k=v) (h2:hd E k=w):Reach E u w
theorem Reach.trans {E:List Arc} {u v w:Nat} (h1:Reach E u v) (h2:Reach E v w):Reach E u w:=by
 induction h2 with
 | refl=>exact h1
 | step _ hk e1 e2 ih=>exact .step ih hk e1 e2
theorem Reach.symm {E:List Arc} {u v:Nat} (h:Reach E u v):Reach E v u:=by
 induction h with
 | refl=>exact .refl _
 | step _ hk e1 e2 ih =>
  refine Reach.trans (.step (.refl _) (ee hk) e2 ?_) ih
  unfold hd; rw [fi]; exact e1
def vW (N:Nat) (E:List Arc):Prop:=∀ v,v < N→Reach E 0 v
section
variable {N:Nat} {E:List Arc} {A:List (List Int)}
theorem RotOK.tl_lt (h:RotOK (N:Nat) E A) {k:Nat} (hk:k < 2 * E.length):∃ v:Nat,tl E k=v∧v < N:=by
 have h1:k / 2 < E.length:=by omega
 obtain ⟨a,ha⟩ : ∃ a,E[k / 2]?=some a:=⟨_,A2 h1⟩
 obtain ⟨e1,e2,e3,e4,_⟩:=h.edge a (B2 ha)
 unfold tl
 rw [ha]
 by_cases e:k % 2=0
 ·exact ⟨a.1.toNat,by simp [e]; omega,by omega⟩
 ·exact ⟨a.2.1.toNat,by simp [e]; omega,by omega⟩
theorem RotOK.hd_lt (h:RotOK (N:Nat) E A) {k:Nat} (hk:k < 2 * E.length):∃ v:Nat,hd E k=v∧v < N:=h.tl_lt (ee hk)
theorem RotOK.around (h:RotOK (N:Nat) E A) {k v:Nat} (hk:k < 2 * E.length) (hv:tl E k=v) {l:List Int} (hl:A[v]?=some l):(k:Int)∈l:=by
 obtain ⟨l',hl',hd'⟩:=MH.1 (h.mem hk)
 obtain ⟨v',hv'⟩:=LM.1 hl'
 obtain ⟨k',e1,_,e3⟩:=h.dart v' l' hv' _ hd'
 have:k=k':=by omega
 subst this
 rw [hv] at e3
 have:v=v':=by omega
 subst this
 rw [hl] at hv'; cases hv'
 exact hd'
def pY (E:List Arc) (_:Nat) (s:List Bool×List Int) (d:Int):Option ((List Bool×List Int)⊕Empty) :=
 some (.inl (if s.1[(hd E d.toNat).toNat]?=some false then (s.1.set (hd E d.toNat).toNat true,s.2++[hd E d.toNat]) else s))
theorem lV (hN:∀ k,k < 2 * E.length→∃ v:Nat,hd E k=v∧v < N):∀ (l:List Int) (i:Nat) (seen:List Bool) (st:List Int),seen.length=N→(∀ d∈l,∃ k:Nat,d=(k:Int)∧k < 2 * E.length) →
  ∃ seen' new,ai (pY E) i (seen,st) l=some (.inl (seen',st++new))∧seen'.length=N∧new.length+unm seen'=unm seen ∧
   (∀ v,v < N→(seen'[v]?=some true↔seen[v]?=some true∨∃ k:Nat,(k:Int)∈l∧hd E k=v))∧(∀ v:Nat,v < N→seen'[v]?=some true→seen[v]?=some true∨(v:Int)∈new) ∧
   (∀ d∈new,∃ v:Nat,d=(v:Int)∧v < N∧seen'[v]?=some true)
 | [],i,seen,st,hs,_=>⟨seen,[],by simp [ai],hs,by simp,by simp,fun v _ h=>.inl h,by simp⟩
 | d :: l,i,seen,st,hs,hl=>by
  obtain ⟨k,rfl,hk⟩:=hl d (by simp)
  obtain ⟨w,hw,hwN⟩:=hN k hk
  have hl':∀ d∈l,∃ k:Nat,d=(k:Int)∧k < 2 * E.length:=fun d hd=>hl d (by simp [hd])
  simp only [ai,pY,B8,hw,gr,K7]
  by_cases hb:seen[w]?=some false
  ·rw [if_pos hb]
   obtain ⟨seen',new,h1,h2,h3,h4,h5,h6⟩:=lV hN l (i+1) (seen.set w true) (st++[(w:Int)]) (by simpa using hs) hl'
   have hu:=gH hb
   have hset:∀ v,v < N→((seen.set w true)[v]?=some true↔seen[v]?=some true∨v=w):=by
    intro v hv
    rw [Lm]
    by_cases e:w=v
    ·subst e; simp; omega
    ·rw [if_neg e]; simp [Ne.symm e]
   refine ⟨seen',(w:Int) :: new,by rw [h1]; simp,h2,by simp only [La]; omega,?_,?_,?_⟩
   ·intro v hv
    rw [h4 v hv,hset v hv]
    constructor
    ·rintro ((h | h) | ⟨j,hj,hj2⟩)
     ·exact .inl h
     ·exact .inr ⟨k,by simp,by rw [hw,h]⟩
     ·exact .inr ⟨j,by simp [hj],hj2⟩
    ·rintro (h | ⟨j,hj,hj2⟩)
     ·exact .inl (.inl h)
     ·rcases B3.1 hj with hj | hj
      ·have:j=k:=by omega
       subst this
       exact .inl (.inr (by rw [hw] at hj2; omega))
      ·exact .inr ⟨j,hj,hj2⟩
   ·intro v hv h
    rcases h5 v hv h with h | h
    ·rcases (hset v hv).1 h with h | h
     ·exact .inl h
     ·exact .inr (by simp [h])
    ·exact .inr (by simp [h])
   ·intro d hd
    rcases B3.1 hd with rfl | hd
    ·exact ⟨w,rfl,hwN,(h4 w hwN).2 (.inl ((hset w hwN).2 (.inr rfl)))⟩
    ·exact h6 d hd
  ·rw [if_neg hb]
   have hbt:seen[w]?=some true:=by
    obtain ⟨b,hb'⟩ : ∃ b,seen[w]?=some b:=⟨_,A2 (by omega)⟩
    cases b with
    | true=>exact hb'
    | false=>exact absurd hb' hb
   obtain ⟨seen',new,h1,h2,h3,h4,h5,h6⟩:=lV hN l (i+1) seen st hs hl'
   refine ⟨seen',new,h1,h2,h3,?_,h5,h6⟩
   intro v hv
   rw [h4 v hv]
   constructor
   ·rintro (h | ⟨j,hj,hj2⟩)
    ·exact .inl h
    ·exact .inr ⟨j,by simp [hj],hj2⟩
   ·rintro (h | ⟨j,hj,hj2⟩)
    ·exact .inl h
    ·rcases B3.1 hj with hj | hj
     ·have:j=k:=by omega
      subst this
      have:v=w:=by rw [hw] at hj2; omega
      subst this
      exact .inl hbt
     ·exact .inr ⟨j,hj,hj2⟩
theorem qe (h:RotOK (N:Nat) E A) (hv:validB ((N:Int),E,A,())=true) (hl:∀ l∈A,l.length≤9223372036854775807) {k:Nat} (hk:k < 2 * E.length):Zau (((N:Int),E,A,()),((k:Int),()))=some (tl E k,()):=by
 have hm1:=h.m1
 unfold Zau
 simp only
 rw [kC ((N:Int),E,A,()) hl,hv,gr]
 simp only [LN,cond_false]
 have e2:jS .i64 2 (E.length:Nat)=((2 * E.length:Nat):Int):=by rw [mQ (by omega) (by omega)]; omega
 have hke:k / 2 < E.length:=by omega
 obtain ⟨a,ha⟩ : ∃ a,E[k / 2]?=some a:=⟨_,A2 hke⟩
 rw [aI (by omega),cond_false,e2,lz (by omega),cond_false,Ek (by omega),aq,ha,gr,Gj,uL,gr]
 simp [tl,ha]
structure Look (N:Nat) (E:List Arc) (seen:List Bool) (st:List Int):Prop where
 len:seen.length=N
 stk:∀ d∈st,∃ v:Nat,d=(v:Int)∧v < N∧seen[v]?=some true
 closed:∀ v:Nat,v < N→seen[v]?=some true→(v:Int)∉st→∀ k w:Nat,k < 2 * E.length→tl E k=v→hd E k=w→seen[w]?=some true
 reach:∀ v:Nat,v < N→seen[v]?=some true→Reach E 0 v
 zero:seen[0]?=some true
theorem Look.step (h:RotOK (N:Nat) E A) {seen seen':List Bool} {st new:List Int} {v:Nat} {l:List Int} (hL:Look N E seen st) (hvN:v < N) (hv:(v:Int)∈st) (hl:A[v]?=some l) (rest:List Int) (hrest:∀ d,d∈st↔d=(v:Int)∨d∈rest)
  (h2:seen'.length=N) (h4:∀ v,v < N→(seen'[v]?=some true↔seen[v]?=some true∨∃ k:Nat,(k:Int)∈l∧hd E k=v)) (h5:∀ v:Nat,v < N→seen'[v]?=some true→seen[v]?=some true∨(v:Int)∈new)
  (h6:∀ d∈new,∃ v:Nat,d=(v:Int)∧v < N∧seen'[v]?=some true):Look N E seen' (rest++new):=by
 refine ⟨h2,?_,?_,?_,?_⟩
 ·intro d hd'
  rcases B1.1 hd' with hd' | hd'
  ·obtain ⟨u,e1,e2,e3⟩:=hL.stk d ((hrest d).2 (.inr hd'))
   exact ⟨u,e1,e2,(h4 u e2).2 (.inl e3)⟩
  ·exact h6 d hd'
 ·intro u hu hus hun k w hk hkt hkh
  obtain ⟨w',hw',hwN⟩:=h.hd_lt hk
  have:w=w':=by omega
  subst this
  rcases h5 u hu hus with hus | hus
  ·by_cases e:u=v
   ·subst e
    exact (h4 w hwN).2 (.inr ⟨k,h.around hk hkt hl,hkh⟩)
   ·refine (h4 w hwN).2 (.inl (hL.closed u hu hus (fun hin=>?_) k w hk hkt hkh))
    rcases (hrest u).1 hin with e2 | e2
    ·exact e (by omega)
    ·exact hun (B1.2 (.inl e2))
  ·exact absurd (B1.2 (.inr hus)) hun
 ·intro u hu hus
  rcases (h4 u hu).1 hus with hus | ⟨k,hk,hkh⟩
  ·exact hL.reach u hu hus
  ·obtain ⟨_,e1,e2,e3⟩:=hL.stk v hv
   have hvv:v=_:=Ny e1
   obtain ⟨k',f1,f2,f3⟩:=h.dart v l hl _ hk
   have:k=k':=by omega
   subst this
   exact .step (hL.reach v hvN (by rw [hvv]; exact e3)) f2 f3 hkh
 ·exact (h4 0 (by omega)).2 (.inl hL.zero)
theorem Look.all (h:RotOK (N:Nat) E A) {seen:List Bool} (hL:Look N E seen []):(∀ v,v < N→seen[v]?=some true)↔vW N E:=by
 constructor
 ·intro ha v hv; exact hL.reach v hv (ha v hv)
 ·intro hc v hv
  have:∀ {u v:Nat},Reach E u v→u=0→seen[v]?=some true:=by
   intro u v hr
   induction hr with
   | refl=>intro e; rw [e]; exact hL.zero
   | step hr' hk e1 e2 ih =>
    intro e
    obtain ⟨u',e3,e4⟩:=h.tl_lt hk
    rw [e1] at e3
    have:_=u':=Ny e3
    subst this
    exact hL.closed _ e4 (ih e) (by simp) _ _ hk e1 e2
  exact this (hc v hv) rfl
theorem DH {seen:List Bool}:unm seen=0↔∀ v,v < seen.length→seen[v]?=some true:=by
 unfold unm
 rw [Ow]
 constructor
 ·intro h v hv
  have:=h seen[v] (Lk hv)
  rw [A2 hv]
  simpa using this
 ·intro h b hb
  obtain ⟨i,hi,rfl⟩:=Mj hb
  have:=h i hi
  rw [A2 hi] at this
  simp at this
  simp [this]
end
end Go.Vm

namespace Go.Vm
open Go.Proofs
set_option maxRecDepth 100000
attribute [local irreducible] aa
section
variable {N:Nat} {E:List Arc} {A:List (List Int)}
theorem AN (h:RotOK (N:Nat) E A) {k:Nat} (hk:k < 2 * E.length):∃ a,E[k / 2]?=some a∧Zav (a,((s6 .i64 (kO (k:Int) 2) 1),()))=some (hd E k,()):=by
 have hke:k / 2 < E.length:=by omega
 obtain ⟨a,ha⟩ : ∃ a,E[k / 2]?=some a:=⟨_,A2 hke⟩
 refine ⟨a,ha,?_⟩
 rw [Gj,EC (by omega),uL]
 unfold hd tl
 rw [jV,ha,jx]
 simp only
 unfold oth
 rcases L6 k with e | e
 ·simp [e]
 ·simp [e]
theorem AH (h:RotOK (N:Nat) E A) (seen:List Bool) (st:List Int) (n c v:Int) (l:List Int) (hs:seen.length=N) (hst:st.length+unm seen≤100000) (hl:∀ d∈l,∃ k:Nat,d=(k:Int)∧k < 2 * E.length) (hll:l.length≤65536) :
  AF ((N:Int),E,A,seen,st,n,c,v,l,(l.length:Nat),0,())=(ai (pY E) 0 (seen,st) l).bind (K8 (fun t=>some (.inl ((N:Int),E,A,t.1,t.2,n,c,v,()))) (fun e=>nomatch e)):=by
 refine (df (B:=qO) (fun _ s=>s.1.length=N∧s.2.length+unm s.1≤100000) (fun s i=>((N:Int),E,A,s.1,s.2,n,c,v,l,((l.length:Nat):Int),(i:Int),())) (fun s=>.inl ((N:Int),E,A,s.1,s.2,n,c,v,())) (fun e=>nomatch e) (pY E) l ?_ ?_ ?_ (seen,st) ⟨hs,hst⟩).trans ?_
 ·rintro ⟨seen,st⟩ i d ⟨hs,hst⟩ hd'
  simp only at hs hst
  have hi:i < l.length:=(A3.1 hd').1
  have hm1:=h.m1
  obtain ⟨k,rfl,hk⟩:=hl d (B2 hd')
  obtain ⟨w,hw,hwN⟩:=h.hd_lt hk
  obtain ⟨a,ha,hta⟩:=AN h hk
  simp only [qO]
  rw [aM (by omega),cond_true,aq,hd',gr,Ek (by omega),aq,ha,gr,hta,gr,hw]
  simp only
  obtain ⟨b,hb⟩ : ∃ b,seen[w]?=some b:=⟨_,A2 (by omega)⟩
  rw [ao (by omega),gr,hb,gr,bj (by omega)]
  simp only [pY,B8,hw,hb]
  cases b with
  | true=>rfl
  | false =>
   have:=gH hb
   simp only [Oa,cond_true,gr,hb]
   rw [c9 (by simp only [ML]; omega)]
   rfl
 ·rintro ⟨seen,st⟩ i d t ⟨hs,hst⟩ hd' hg
  simp only at hs hst
  simp only [pY] at hg
  cases hg
  split
  ·rename_i hb
   have:=gH hb
   exact ⟨by simpa using hs,by simp only [Lu,ML]; omega⟩
  ·exact ⟨hs,hst⟩
 ·intro s hs
  simp only [qO]
  rw [aI (by omega)]; rfl
 ·cases ai (pY E) 0 (seen,st) l with
  | none=>rfl
  | some x=>cases x with
   | inl t=>rfl
   | inr e=>exact nomatch e
def rt (up:List Int):Nat→Nat→Nat
 | 0,v=>v
 | n+1,v=>match up[v]? with
  | some u=>if u.toNat=v then v else rt up n u.toNat
  | none=>v
def nn (N:Nat) (up:List Int):Prop:=up.length=N∧∀ v,v < N→∃ u:Nat,up[v]?=some (u:Int)∧u≤v
theorem pw {up:List Int} (h:nn N up):∀ (n v:Nat),v < N→rt up n v≤v
 | 0,v,_=>A7 _
 | n+1,v,hv=>by
  obtain ⟨u,hu,hle⟩:=h.2 v hv
  simp only [rt,hu,B8]
  split
  ·exact A7 _
  ·have:=pw h n u (by omega); omega
theorem uw {up:List Int} (h:nn N up):∀ (n v:Nat),v < N→v≤n→rt up (n+1) v=rt up n v
 | 0,v,hv,hn=>by
  have:v=0:=by omega
  subst this
  obtain ⟨u,hu,hle⟩:=h.2 0 hv
  have:u=0:=by omega
  subst this
  have hu':up[0]?=some (0:Int):=hu
  simp [rt,hu']
 | n+1,v,hv,hn=>by
  obtain ⟨u,hu,hle⟩:=h.2 v hv
  rw [rt,rt]
  simp only [hu,B8]
  split
  ·rfl
  ·exact uw h n u (by omega) (by omega)
theorem Ht {up:List Int} (h:nn N up) {v:Nat} (hv:v < N):∀ n,v≤n→rt up n v=rt up N v:=by
 have key:∀ d,rt up (v+d) v=rt up v v:=by
  intro d
  induction d with
  | zero=>rfl
  | succ d ih=>rw [show v+(d+1)=v+d+1 by omega,uw h _ v hv (by omega),ih]
 intro n hn
 obtain ⟨d,rfl⟩ : ∃ d,n=v+d:=⟨n - v,by omega⟩
 obtain ⟨d',hd'⟩ : ∃ d,N=v+d:=⟨N - v,by omega⟩
 rw [key d]
 rw [hd',key d']
theorem lE {up:List Int} (h:nn N up) {v u:Nat} (hv:v < N) (hu:up[v]?=some (u:Int)):rt up N v=if u=v then v else rt up N u:=by
 obtain ⟨u',hu',hle⟩:=h.2 v hv
 rw [hu] at hu'
 have:u=u':=by have:=B4 hu'; omega
 subst this
 rw [← Ht h hv (v+1) (by omega)]
 simp only [rt,hu,B8]
 split
 ·rfl
 ·rw [Ht h (by omega) v (by omega)]
theorem qn {up:List Int} (h:nn N up):∀ (v:Nat),v < N→up[rt up N v]?=some ((rt up N v:Nat):Int):=by
 intro v
 induction v using Nat.strongRecOn with
 | ind v ih =>
  intro hv
  obtain ⟨u,hu,hle⟩:=h.2 v hv
  rw [lE h hv hu]
  split
  ·rename_i e; subst e; exact hu
  ·exact ih u (by omega) (by omega)
theorem F8 {up:List Int} (h:nn N up):∀ (v:Nat),v < N→zG (up,(v:Int),())=some (.inl (((rt up N v:Nat):Int),())):=by
 intro v
 induction v using Nat.strongRecOn with
 | ind v ih =>
  intro hv
  obtain ⟨u,hu,hle⟩:=h.2 v hv
  rw [lE h hv hu]
  by_cases e:u=v
  ·subst e
   rw [if_pos rfl]
   refine bW ?_
   simp only [rL]
   rw [aq,hu,gr,fA rfl]; rfl
  ·rw [if_neg e]
   have hs:rL (up,(v:Int),())=some (.inl (up,(u:Int),())):=by
    simp only [rL]
    rw [aq,hu,gr,ik (by omega)]; rfl
   exact (cI hs).trans (ih u (by omega) (by omega))
theorem Bu {up:List Int} (h:nn N up) {v:Nat} (hv:v < N):Zad (up,(v:Int),())=some (((rt up N v:Nat):Int),()):=by
 unfold Zad
 simp only
 rw [F8 h v hv]; rfl
theorem GV {up:List Int} (h:nn N up) {a b:Nat} (ha:a < N) (hb:b < N) (hra:up[a]?=some (a:Int)) (hrb:up[b]?=some (b:Int)) (hlt:b < a) :
  nn N (up.set a (b:Int))∧∀ v,v < N→rt (up.set a (b:Int)) N v=if rt up N v=a then b else rt up N v:=by
 have hok:nn N (up.set a (b:Int)):=by
  refine ⟨by simpa using h.1,fun v hv=>?_⟩
  rw [Lm]
  by_cases e:a=v
  ·subst e; exact ⟨b,by simp [h.1]; omega,by omega⟩
  ·rw [if_neg e]; exact h.2 v hv
 refine ⟨hok,fun v=>?_⟩
 induction v using Nat.strongRecOn with
 | ind v ih =>
  intro hv
  obtain ⟨u,hu,hle⟩:=h.2 v hv
  by_cases e:v=a
  ·subst e
   have h1:(up.set v (b:Int))[v]?=some (b:Int):=by simp [h.1,hv]
   rw [lE hok hv h1,if_neg (by omega),ih b hlt hb]
   rw [lE h hv hra,if_pos rfl,if_pos rfl,lE h hb hrb,if_pos rfl,if_neg (by omega)]
  ·have h1:(up.set a (b:Int))[v]?=some (u:Int):=by rw [Lm,if_neg (by omega)]; exact hu
   rw [lE hok hv h1,lE h hv hu]
   by_cases e2:u=v
   ·subst e2; simp [e]
   ·rw [if_neg e2,if_neg e2]
    exact ih u (by omega) (by omega)
end
end Go.Vm

namespace Go.Vm
open Go.Proofs
set_option maxRecDepth 100000
attribute [local irreducible] aa
section
variable {N:Nat} {E:List Arc} {A:List (List Int)}
def bT (up:List Int) (v:Nat):Bool:=decide (up[v]?=some (v:Int))
def fv (N:Nat) (up:List Int):Nat:=(Le N).countP (bT up)
theorem Ah {up:List Int} (h:nn N up) {a b:Nat} (ha:a < N) (hra:up[a]?=some (a:Int)) (hlt:b < a):fv N (up.set a (b:Int))+1=fv N up:=by
 have e1:bg (bT (up.set a (b:Int))) a=bT up:=by
  funext v
  unfold bg bT
  by_cases e:v=a
  ·subst e; simp [hra]
  ·rw [Lm,if_neg (Ne.symm e)]
   simp [e]
 have e2:bT (up.set a (b:Int)) a=false:=by
  unfold bT
  simp [h.1,ha]
  omega
 unfold fv
 rw [← e1,l7 e2 ha]
structure CompInv (N:Nat) (E:List Arc) (i:Nat) (s:List Int×Int):Prop where
 up:nn N s.1
 num:s.2=(fv N s.1:Int)
 same:∀ j a,j < i→E[j]?=some a→rt s.1 N a.1.toNat=rt s.1 N a.2.1.toNat
 reach:∀ v,v < N→Reach E v (rt s.1 N v)
def lC (N:Nat) (_:Nat) (s:List Int×Int) (a:Arc):Option ((List Int×Int)⊕Empty) :=
 let p:=rt s.1 N a.1.toNat
 let q:=rt s.1 N a.2.1.toNat
 some (.inl (if p=q then s else (s.1.set (max p q) ((min p q:Nat):Int),cQ .i64 s.2 1)))
theorem zC (h:RotOK (N:Nat) E A) {j:Nat} {a:Arc} (ha:E[j]?=some a):Reach E a.1.toNat a.2.1.toNat:=by
 have hj:j < E.length:=(A3.1 ha).1
 obtain ⟨e1,e2,e3,e4,_⟩:=h.edge a (B2 ha)
 refine .step (.refl _) (k:=2 * j) (by omega) ?_ ?_
 ·unfold tl
  rw [show 2 * j / 2=j by omega,ha]
  simp
  omega
 ·unfold hd tl oth
  rw [if_pos (by omega),show (2 * j+1) / 2=j by omega,ha]
  have:(2 * j+1) % 2=1:=by omega
  simp [this]
  omega
theorem py (h:RotOK (N:Nat) E A) {i:Nat} {s t:List Int×Int} {a:Arc} (hs:CompInv N E i s) (ha:E[i]?=some a) (hg:lC N i s a=some (.inl t)):CompInv N E (i+1) t:=by
 have h16:N≤16384:=by have:=h.n1; omega
 obtain ⟨e1,e2,e3,e4,_⟩:=h.edge a (B2 ha)
 have hpa:a.1.toNat < N:=by omega
 have hqa:a.2.1.toNat < N:=by omega
 have hp:=pw hs.up N _ hpa
 have hq:=pw hs.up N _ hqa
 have hrp:=qn hs.up _ hpa
 have hrq:=qn hs.up _ hqa
 simp only [lC] at hg
 cases hg
 by_cases e:rt s.1 N a.1.toNat=rt s.1 N a.2.1.toNat
 ·rw [if_pos e]
  refine ⟨hs.up,hs.num,fun j b hj hb=>?_,hs.reach⟩
  rcases LC (LX hj) with rfl | hlt
  ·rw [ha] at hb; cases hb; exact e
  ·exact hs.same j b hlt hb
 ·rw [if_neg e]
  -- the greater one is laid under the smaller one
  obtain ⟨x,y,hx,hy,hxy,hrx,hry,hpq⟩ : ∃ x y:Nat,x=max (rt s.1 N a.1.toNat) (rt s.1 N a.2.1.toNat)∧y=min (rt s.1 N a.1.toNat) (rt s.1 N a.2.1.toNat)∧y < x∧s.1[x]?=some (x:Int)∧s.1[y]?=some (y:Int) ∧
    ((rt s.1 N a.1.toNat=x∧rt s.1 N a.2.1.toNat=y)∨(rt s.1 N a.1.toNat=y∧rt s.1 N a.2.1.toNat=x)):=by
   rcases Me (rt s.1 N a.1.toNat) (rt s.1 N a.2.1.toNat) with hlt | hge
   ·exact ⟨_,_,rfl,rfl,by omega,by rw [Nat.max_eq_right (by omega)]; exact hrq,by rw [Nat.min_eq_left (by omega)]; exact hrp,.inr ⟨by omega,by omega⟩⟩
   ·exact ⟨_,_,rfl,rfl,by omega,by rw [Nat.max_eq_left (by omega)]; exact hrp,by rw [Nat.min_eq_right (by omega)]; exact hrq,.inl ⟨by omega,by omega⟩⟩
  rw [← hx,← hy]
  have hxN:x < N:=by omega
  have hyN:y < N:=by omega
  obtain ⟨j1,j2⟩:=GV hs.up hxN hyN hrx hry hxy
  have hrj:=Ah hs.up hxN hrx hxy
  have hrle:fv N s.1≤N:=by
   have:=M3 (p:=bT s.1) (l:=Le N)
   simpa [fv] using this
  have hxyr:Reach E x y:=by
   have r1:=hs.reach _ hpa
   have r2:=hs.reach _ hqa
   have r3:=zC h ha
   rcases hpq with ⟨p1,p2⟩ | ⟨p1,p2⟩
   ·rw [p1] at r1; rw [p2] at r2
    exact (r1.symm.trans r3).trans r2
   ·rw [p1] at r1; rw [p2] at r2
    exact ((r2.symm.trans r3.symm).trans r1)
  refine ⟨j1,?_,?_,?_⟩
  ·show cQ .i64 s.2 1=_
   rw [hs.num,nJ (by omega)]
   show _=((fv N (s.1.set x (y:Int)):Nat):Int)
   omega
  ·intro j b hj hb
   obtain ⟨b1,b2,b3,b4,_⟩:=h.edge b (B2 hb)
   rw [j2 _ (by omega),j2 _ (by omega)]
   rcases LC (LX hj) with rfl | hlt
   ·rw [ha] at hb; cases hb
    rcases hpq with ⟨p1,p2⟩ | ⟨p1,p2⟩ <;> rw [p1,p2] <;> simp <;> omega
   ·rw [hs.same j b hlt hb]
  ·intro v hv
   rw [j2 v hv]
   have:=hs.reach v hv
   split
   ·rename_i e5
    rw [e5] at this
    exact this.trans hxyr
   ·exact this
theorem x5 (h:RotOK (N:Nat) E A):∃ up,∃ c:Nat,Fi ((N:Int),E,A,(Le N).map Int.ofNat,(N:Int),0,())=some (.inl ((c:Int),()))∧CompInv N E E.length (up,(c:Int)):=by
 have h16:N≤16384:=by have:=h.n1; omega
 have hm1:=h.m1
 have h0:CompInv N E 0 ((Le N).map Int.ofNat,(N:Int)):=by
  have hg:∀ v,v < N→((Le N).map Int.ofNat)[v]?=some (v:Int):=by
   intro v hv; simp [hv]
  have hu:nn N ((Le N).map Int.ofNat):=⟨by simp,fun v hv=>⟨v,hg v hv,A7 _⟩⟩
  have hr:∀ v,v < N→rt ((Le N).map Int.ofNat) N v=v:=fun v hv=>by rw [lE hu hv (hg v hv),if_pos rfl]
  refine ⟨hu,?_,fun j a hj=>by omega,fun v hv=>by rw [hr v hv]; exact .refl _⟩
  have:fv N ((Le N).map Int.ofNat)=N:=by
   unfold fv
   rw [Ok.2 (fun v hv=>?_)]
   ·simp
   ·have:=Ma.1 hv
    simp [bT,this]
  simp only
  rw [this]
 have key:=df (B:=wI) (ε:=Empty) (fun i s=>CompInv N E i s) (fun s i=>((N:Int),E,A,s.1,s.2,(i:Int),())) (fun s=>.inl (s.2,())) (fun e=>nomatch e) (lC N) E (by
   rintro ⟨up,n⟩ i a hs ha
   have hi:i < E.length:=(A3.1 ha).1
   obtain ⟨e1,e2,e3,e4,_⟩:=h.edge a (B2 ha)
   obtain ⟨p,hp⟩ : ∃ p:Nat,a.1=p:=⟨a.1.toNat,by omega⟩
   obtain ⟨q,hq⟩ : ∃ q:Nat,a.2.1=q:=⟨a.2.1.toNat,by omega⟩
   have hpN:p < N:=by omega
   have hqN:q < N:=by omega
   have hu:nn N up:=hs.up
   have lp:=pw hu N p hpN
   have lq:=pw hu N q hqN
   simp only [wI]
   rw [aM (by omega),cond_true,aq,ha,gr]
   simp only [hp,gr,hq]
   rw [Bu hu hpN,gr,Bu hu hqN,gr,bj (by omega)]
   simp only [lC,hp,hq,B8]
   by_cases e:rt up N p=rt up N q
   ·rw [fA (by omega),if_pos e]; rfl
   ·rw [ik (by omega),if_neg e,cond_true]
    have em:maxI ((rt up N p:Nat):Int) ((rt up N q:Nat):Int)=((max (rt up N p) (rt up N q):Nat):Int):=by
     unfold maxI; split <;> omega
    have en:kr ((rt up N p:Nat):Int) ((rt up N q:Nat):Int)=((min (rt up N p) (rt up N q):Nat):Int):=by
     unfold kr; split <;> omega
    rw [em,en,ao (by rw [hu.1]; omega),gr]
    obtain ⟨z,hz⟩ : ∃ z,up[max (rt up N p) (rt up N q)]?=some z:=⟨_,A2 (by rw [hu.1]; omega)⟩
    rw [hz]
    rfl) (by
   rintro s i a t hs ha hg
   exact py h hs ha hg) (by
   intro s hs
   simp only [wI]
   rw [aI (by omega)]; rfl) ((Le N).map Int.ofNat,(N:Int)) h0
 obtain ⟨t,ht⟩:=uf (g:=lC N) (l:=E) (i:=0) (s:=((Le N).map Int.ofNat,(N:Int)))
  (fun _ s a=>if rt s.1 N a.1.toNat=rt s.1 N a.2.1.toNat then s else (s.1.set (max (rt s.1 N a.1.toNat) (rt s.1 N a.2.1.toNat)) ((min (rt s.1 N a.1.toNat) (rt s.1 N a.2.1.toNat):Nat):Int),cQ .i64 s.2 1)) (fun _ _ _ _=>rfl)
 have hI:=gU (I:=fun i s=>CompInv N E i s) (fun s j a u h1 h2 h3=>by
  rw [Ln] at h1 h3 ⊢
  exact py h h1 h2 h3) h0 ht
 rw [Ln] at hI
 rw [ht] at key
 refine ⟨t.1,fv N t.1,?_,⟨hI.up,rfl,hI.same,hI.reach⟩⟩
 rw [← hI.num]
 exact key
theorem Cz (h:RotOK (N:Nat) E A) (hN0:0 < N) {up:List Int} {c:Nat} (hI:CompInv N E E.length (up,(c:Int))):c=1↔vW N E:=by
 have hc:c=fv N up:=by have:=hI.num; simp only at this; omega
 have hu:nn N up:=hI.up
 have hroot0:bT up 0=true:=by
  obtain ⟨u,e1,e2⟩:=hu.2 0 hN0
  have:u=0:=by omega
  subst this
  simpa [bT] using e1
 have hrt:∀ v,v < N→bT up (rt up N v)=true:=fun v hv=>by
  have:=qn hu v hv
  simp [bT,this]
 constructor
 ·intro h1
  have hz:∀ v,v < N→bT up v=true→v=0:=by
   intro v hv hr
   apply Classical.byContradiction
   intro hne
   have e1:bg (fun x=>bT up x && x != 0) 0=bT up:=by
    funext x
    unfold bg
    by_cases e:x=0
    ·subst e; simp [hroot0]
    ·have e5:(x == 0)=false:=by simpa using e
     have e6:(x != 0)=true:=by simpa using e
     rw [e5]; show (bT up x && x != 0 || false)=_; rw [e6]; simp
   have e2:(Le N).countP (bT up)=(Le N).countP (fun x=>bT up x && x != 0)+1:=by
    rw [← l7 (S:=fun x=>bT up x && x != 0) (i:=0) (by simp) hN0,e1]
   have e3:(Le N).countP (fun x=>bT up x && x != 0)=0:=by
    unfold fv at hc; omega
   rw [Ow] at e3
   have:=e3 v (Ma.2 hv)
   simp [hr,hne] at this
  intro v hv
  have e4:=hz _ (Nat.lt_of_le_of_lt (pw hu N v hv) hv) (hrt v hv)
  have:=hI.reach v hv
  simp only [e4] at this
  exact this.symm
 ·intro hcn
  have hall:∀ {u v:Nat},Reach E u v→u < N→rt up N u=rt up N v:=by
   intro u v hr
   induction hr with
   | refl=>intro _; rfl
   | @step v w k hr' hk e1 e2 ih =>
    intro hu0
    rw [ih hu0]
    have hj:k / 2 < E.length:=by omega
    obtain ⟨a,ha⟩ : ∃ a,E[k / 2]?=some a:=⟨_,A2 hj⟩
    have hs:=hI.same (k / 2) a hj ha
    simp only at hs
    have e1':tl E k=(if k % 2=0 then a.1 else a.2.1):=by simp [tl,ha]
    have e2':hd E k=(if k % 2=0 then a.2.1 else a.1):=by
     unfold hd tl
     rw [jV,ha,jx]
     rcases L6 k with e | e <;> simp [e]
    rw [e1'] at e1
    rw [e2'] at e2
    rcases L6 k with e | e
    ·simp only [e,if_true] at e1 e2
     rw [e1,e2] at hs
     simpa using hs
    ·simp only [e,if_neg (by omega:¬ (1=0))] at e1 e2
     rw [e1,e2] at hs
     simpa using hs.symm
  have hz:∀ v,v < N→bT up v=true→v=0:=by
   intro v hv hr
   have e1:up[v]?=some (v:Int):=by simpa [bT] using hr
   have e0:up[0]?=some ((0:Nat):Int):=by simpa [bT] using hroot0
   have:=hall (hcn v hv) hN0
   rw [lE hu hN0 e0,if_pos rfl,lE hu hv e1,if_pos rfl] at this
   exact this.symm
  rw [hc]
  unfold fv
  have e1:(Le N).countP (bT up)=(Le N).countP (bg (fun _=>false) 0):=by
   refine OJ fun x hx=>?_
   have hxN:=Ma.1 hx
   unfold bg
   simp only [Bool.false_or,beq_iff_eq]
   exact ⟨hz x hxN,fun e=>by rw [e]; exact hroot0⟩
  rw [e1,l7 (S:=fun _=>false) (i:=0) rfl hN0]
  simp
theorem ug (h:RotOK (N:Nat) E A):∃ c:Nat,Zf (((N:Int),E,A,()),())=some ((c:Int),())∧c≤N∧(0 < N→(c=1↔vW N E)):=by
 have h16:N≤16384:=by have:=h.n1; omega
 obtain ⟨up,c,h1,h2⟩:=x5 h
 refine ⟨c,?_,?_,fun hN0=>Cz h hN0 h2⟩
 ·unfold Zf
  simp only
  have key:∀ (d k:Nat),k+d=N→ub ((N:Int),E,A,(Le k).map Int.ofNat,(k:Int),())=some (.inl ((N:Int),E,A,(Le N).map Int.ofNat,())):=by
   intro d
   induction d with
   | zero =>
    intro k hk
    have:k=N:=by omega
    subst this
    refine bW ?_
    simp only [pp]
    rw [aI (by omega)]; rfl
   | succ d ih =>
    intro k hk
    have hs:pp ((N:Int),E,A,(Le k).map Int.ofNat,(k:Int),())=some (.inl ((N:Int),E,A,(Le (k+1)).map Int.ofNat,((k+1:Nat):Int),())):=by
     simp only [pp]
     rw [aM (by omega),cond_true,c9 (by simp; omega),gr,bj (by omega),N2,ME]
     rfl
    exact (cI hs).trans (ih (k+1) (by omega))
  have:=key N 0 (by omega)
  rw [show ub ((N:Int),E,A,[],0,())=_ from this]
  simp only [gr,K7]
  rw [h1]
  rfl
 ·have:=h2.num
  have hle:=M3 (p:=bT up) (l:=Le N)
  simp only [fv,List.length_range] at this hle
  omega
end
end Go.Vm

namespace Go.Vm
open Go.Proofs
set_option maxRecDepth 100000
attribute [local irreducible] aa
section
variable {E:List Arc} {A:List (List Int)} {N:Nat}
theorem qN {v:Nat}:∀ (l:List Int) (i:Nat) (S:List Int) (met:List Bool) (n:Int),met.length=2 * E.length→(∀ k:Nat,k < 2 * E.length→(met[k]?=some true↔(k:Int)∈S)) →
  (∀ d∈l,∃ k:Nat,d=(k:Int)∧k < 2 * E.length∧tl E k=v)→(S++l).Nodup→∃ t,ai (dR E v) i (met,n) l=some (.inl t)
 | [],i,S,met,n,_,_,_,_=>⟨(met,n),rfl⟩
 | d :: l,i,S,met,n,hm,hS,hl,hnd=>by
  obtain ⟨k,rfl,hk,htl⟩:=hl d (by simp)
  have hns:(k:Int)∉S:=by
   rw [Mi] at hnd
   intro hin
   exact hnd.2.2 _ hin (k:Int) (by simp) rfl
  have hf:met[k]?=some false:=by
   obtain ⟨b,hb⟩ : ∃ b,met[k]?=some b:=⟨_,A2 (by omega)⟩
   cases b with
   | false=>exact hb
   | true=>exact absurd ((hS k hk).1 hb) hns
  simp only [ai]
  unfold dR
  rw [if_pos ⟨by omega,by simp only; omega,by simpa using hf,by simpa using htl⟩]
  simp only [gr,K7,B8]
  refine qN l (i+1) (S++[(k:Int)]) (met.set k true) _ (by simpa using hm) (fun j hj=>?_) (fun d hd=>hl d (by simp [hd])) (by simpa using hnd)
  rw [Lm]
  by_cases e:k=j
  ·subst e
   rw [if_pos rfl,if_pos (by omega)]
   simp
  ·rw [if_neg e,hS j hj]
   simp only [B1,LD]
   exact ⟨.inl,fun h=>h.resolve_right (by omega)⟩
theorem tz (hE:E.length≤32768):∀ (A:List (List Int)) (i:Nat) (S:List Int) (met:List Bool) (n:Int),met.length=2 * E.length→(∀ k:Nat,k < 2 * E.length→(met[k]?=some true↔(k:Int)∈S)) →
  n=S.length→(∀ d∈S,∃ k:Nat,d=(k:Int)∧k < 2 * E.length)→(∀ (v:Nat) (l:List Int),A[v]?=some l→∀ d∈l,∃ k:Nat,d=(k:Int)∧k < 2 * E.length∧tl E k=((i+v:Nat):Int))→(S++A.flatten).Nodup →
  ∃ t,ai (fun v s l=>dC E v s l) i (met,n) A=some (.inl t)
 | [],i,S,met,n,_,_,_,_,_,_=>⟨(met,n),rfl⟩
 | l :: A,i,S,met,n,hm,hS,hn,hr,hA,hnd=>by
  have hl:=hA 0 l rfl
  rw [NR,← LH] at hnd
  have hnd1:(S++l).Nodup:=(Mi.1 hnd).1
  have hndS:S.Nodup:=(Mi.1 hnd1).1
  obtain ⟨t,ht⟩:=qN (v:=i) l 0 S met n hm hS (fun d hd=>by simpa using hl d hd) hnd1
  obtain ⟨q1,q2,q3,q4,q5⟩:=mK hm hS hn hndS hr hE ht
  obtain ⟨t2,ht2⟩:=tz hE A (i+1) (S++l) t.1 t.2 q5 q3 q4 (by
   intro d hd
   rcases B1.1 hd with hd | hd
   ·exact hr d hd
   ·obtain ⟨k,hk,hk2,_⟩:=q1 d hd; exact ⟨k,hk,hk2⟩) (by
   intro v l' hl' d hd
   obtain ⟨k,k1,k2,k3⟩:=hA (v+1) l' (by simpa using hl') d hd
   exact ⟨k,k1,k2,by rw [k3]; omega⟩) hnd
  refine ⟨t2,?_⟩
  simp only [ai]
  rw [show dC E i (met,n) l=some (.inl t) from ht]
  exact ht2
theorem RotOK.validB (h:RotOK (N:Nat) E A):validB ((N:Int),E,A,())=true:=by
 have hm1:=h.m1
 have hn1:=h.n1
 have hlen:=h.len
 obtain ⟨t,ht⟩:=tz hm1 A 0 [] (A6 (2 * E.length) false) 0 (by simp) (by
  intro k hk
  simp [L3,hk]) rfl (by simp) (by
  intro v l hl d hd
  obtain ⟨k,k1,k2,k3⟩:=h.dart v l hl d hd
  exact ⟨k,k1,k2,by rw [k3]; omega⟩) (by simpa using h.nodup)
 have hl:=nm ht
 obtain ⟨_,_,_,q4⟩:=oE hm1 (A:=A) (i:=0) (S:=[]) (met:=A6 (2 * E.length) false) (n:=0) (t:=t) (by simp) (by
   intro k hk
   simp [L3,hk]) rfl N9 (by simp) ht
 have hall:=h.all
 unfold Go.Vm.validB
 simp only
 rw [show oW E A=some (.inl t) from ht]
 simp only [LW] at q4
 rw [aI (by omega),jp (by omega),jp (by omega),fA (by omega)]
 have:E.any (di (N:Int))=false:=by
  rw [L4]
  intro a ha
  obtain ⟨e1,e2,e3,e4,e5⟩:=h.edge a ha
  unfold di
  rw [aI e1,lz e2,aI e3,lz e4,iz e5]
  simp
 rw [this]
 have e5:eqI t.2 ((t.1.length:Nat):Int)=true:=kP (by omega)
 exact e5
end
end Go.Vm

namespace Go.Vm
open Go.Proofs
set_option maxRecDepth 100000
attribute [local irreducible] aa
section
variable {N:Nat} {E:List Arc} {A:List (List Int)}
def J0 (E:List Arc) (v:Nat):Prop:=∀ u,u < v→¬ Reach E u v
open Classical in
noncomputable def jF (E:List Arc) (v:Nat):Bool:=decide (J0 E v)
theorem qA {v:Nat}:jF E v=true↔J0 E v:=by unfold jF; simp
noncomputable def sA (N:Nat) (E:List Arc):Nat:=(Le N).countP (jF E)
theorem GJ (h:RotOK (N:Nat) E A) {s:List Int×Int} (hI:CompInv N E E.length s):∀ {u v:Nat},Reach E u v→u < N→rt s.1 N u=rt s.1 N v:=by
 intro u v hr
 induction hr with
 | refl=>intro _; rfl
 | @step v w k hr' hk e1 e2 ih =>
  intro hu0
  rw [ih hu0]
  have hj:k / 2 < E.length:=by omega
  obtain ⟨a,ha⟩ : ∃ a,E[k / 2]?=some a:=⟨_,A2 hj⟩
  have hs:=hI.same (k / 2) a hj ha
  have e1':tl E k=(if k % 2=0 then a.1 else a.2.1):=by simp [tl,ha]
  have e2':hd E k=(if k % 2=0 then a.2.1 else a.1):=by
   unfold hd tl
   rw [jV,ha,jx]
   rcases L6 k with e | e <;> simp [e]
  rw [e1'] at e1
  rw [e2'] at e2
  rcases L6 k with e | e
  ·simp only [e,if_true] at e1 e2
   rw [e1,e2] at hs
   simpa using hs
  ·simp only [e,if_neg (by omega:¬ (1=0))] at e1 e2
   rw [e1,e2] at hs
   simpa using hs.symm
theorem yx (h:RotOK (N:Nat) E A) {s:List Int×Int} (hI:CompInv N E E.length s):fv N s.1=sA N E:=by
 unfold fv sA
 refine OJ fun v hv=>?_
 have hvN:=Ma.1 hv
 rw [qA]
 constructor
 ·intro hr u hu hR
  have e1:s.1[v]?=some (v:Int):=by simpa [bT] using hr
  have e2:=GJ h hI hR (by omega)
  rw [lE hI.up hvN e1,if_pos rfl] at e2
  have:=pw hI.up N u (by omega)
  omega
 ·intro hm
  have h1:=pw hI.up N v hvN
  have h2:=hI.reach v hvN
  have h3:rt s.1 N v=v:=by
   rcases LC h1 with e | hlt
   ·exact e
   ·exact absurd h2.symm (hm _ hlt)
  have:=qn hI.up v hvN
  rw [h3] at this
  simp [bT,this]
theorem Ar (h:RotOK (N:Nat) E A):Zf (((N:Int),E,A,()),())=some ((sA N E:Int),()):=by
 obtain ⟨up,c,h1,h2⟩:=x5 h
 have hc:c=sA N E:=by
  rw [← yx h h2]
  have:(c:Int)=(fv N up:Int):=h2.num
  show c=fv N up
  omega
 obtain ⟨c',e1,_⟩:=ug h
 -- the value is that of the run
 have:Zf (((N:Int),E,A,()),())=some ((c:Int),()):=by
  unfold Zf at e1 ⊢
  simp only at e1 ⊢
  have h16:N≤16384:=by have:=h.n1; omega
  have key:∀ (d k:Nat),k+d=N→ub ((N:Int),E,A,(Le k).map Int.ofNat,(k:Int),())=some (.inl ((N:Int),E,A,(Le N).map Int.ofNat,())):=by
   intro d
   induction d with
   | zero =>
    intro k hk
    have:k=N:=by omega
    subst this
    refine bW ?_
    simp only [pp]
    rw [aI (by omega)]; rfl
   | succ d ih =>
    intro k hk
    have hs:pp ((N:Int),E,A,(Le k).map Int.ofNat,(k:Int),())=some (.inl ((N:Int),E,A,(Le (k+1)).map Int.ofNat,((k+1:Nat):Int),())):=by
     simp only [pp]
     rw [aM (by omega),cond_true,c9 (by simp; omega),gr,bj (by omega),N2,ME]
     rfl
    exact (cI hs).trans (ih (k+1) (by omega))
  have hk:=key N 0 (by omega)
  rw [show ub ((N:Int),E,A,[],0,())=_ from hk]
  simp only [gr,K7]
  rw [h1]
  rfl
 rw [this,hc]
structure LookQ (N:Nat) (E:List Arc) (Q:Nat→Prop) (seen0 seen:List Bool) (st:List Int):Prop where
 len:seen.length=N
 stk:∀ d∈st,∃ v:Nat,d=(v:Int)∧v < N∧seen[v]?=some true
 closed:∀ v:Nat,v < N→seen[v]?=some true→(v:Int)∉st→∀ k w:Nat,k < 2 * E.length→tl E k=v→hd E k=w→seen[w]?=some true
 reach:∀ v:Nat,v < N→seen[v]?=some true→Q v
 keep:∀ v:Nat,v < N→seen0[v]?=some true→seen[v]?=some true
theorem LookQ.step (h:RotOK (N:Nat) E A) {Q:Nat→Prop} (hQ:∀ v w k:Nat,Q v→k < 2 * E.length→tl E k=v→hd E k=w→Q w) {seen0 seen seen':List Bool} {st new:List Int} {v:Nat} {l:List Int} (hL:LookQ N E Q seen0 seen st) (hvN:v < N) (hv:(v:Int)∈st) (hl:A[v]?=some l) (rest:List Int) (hrest:∀ d,d∈st↔d=(v:Int)∨d∈rest)
  (h2:seen'.length=N) (h4:∀ v,v < N→(seen'[v]?=some true↔seen[v]?=some true∨∃ k:Nat,(k:Int)∈l∧hd E k=v)) (h5:∀ v:Nat,v < N→seen'[v]?=some true→seen[v]?=some true∨(v:Int)∈new)
  (h6:∀ d∈new,∃ v:Nat,d=(v:Int)∧v < N∧seen'[v]?=some true):LookQ N E Q seen0 seen' (rest++new):=by
 refine ⟨h2,?_,?_,?_,?_⟩
 ·intro d hd'
  rcases B1.1 hd' with hd' | hd'
  ·obtain ⟨u,e1,e2,e3⟩:=hL.stk d ((hrest d).2 (.inr hd'))
   exact ⟨u,e1,e2,(h4 u e2).2 (.inl e3)⟩
  ·exact h6 d hd'
 ·intro u hu hus hun k w hk hkt hkh
  obtain ⟨w',hw',hwN⟩:=h.hd_lt hk
  have:w=w':=by omega
  subst this
  rcases h5 u hu hus with hus | hus
  ·by_cases e:u=v
   ·subst e
    exact (h4 w hwN).2 (.inr ⟨k,h.around hk hkt hl,hkh⟩)
   ·refine (h4 w hwN).2 (.inl (hL.closed u hu hus (fun hin=>?_) k w hk hkt hkh))
    rcases (hrest u).1 hin with e2 | e2
    ·exact e (by omega)
    ·exact hun (B1.2 (.inl e2))
  ·exact absurd (B1.2 (.inr hus)) hun
 ·intro u hu hus
  rcases (h4 u hu).1 hus with hus | ⟨k,hk,hkh⟩
  ·exact hL.reach u hu hus
  ·obtain ⟨_,e1,e2,e3⟩:=hL.stk v hv
   have hvv:v=_:=Ny e1
   obtain ⟨k',f1,f2,f3⟩:=h.dart v l hl _ hk
   have:k=k':=by omega
   subst this
   exact hQ v u k (hL.reach v hvN (by rw [hvv]; exact e3)) f2 f3 hkh
 ·intro u hu hus
  exact (h4 u hu).2 (.inl (hL.keep u hu hus))
theorem wL (h:RotOK (N:Nat) E A) {Q:Nat→Prop} (hQ:∀ v w k:Nat,Q v→k < 2 * E.length→tl E k=v→hd E k=w→Q w) (seen0:List Bool) (st0:List Int) (hst:st0.length+unm seen0≤N) (h0:LookQ N E Q seen0 seen0 st0) (n c v:Int) :
  ∃ seen,AI ((N:Int),E,A,seen0,st0,n,c,v,())=some (.inl ((N:Int),E,A,seen,n,c,v,()))∧LookQ N E Q seen0 seen []:=by
 have h16:N≤16384:=by have:=h.n1; omega
 have hAl:A.length=N:=by have:=h.len; omega
 obtain ⟨r,h1,h2⟩:=lN (f:=rF) (fun s=>∃ seen st,s=((N:Int),E,A,seen,st,n,c,v,())∧LookQ N E Q seen0 seen st∧st.length+unm seen≤N)
  (fun s=>s.2.2.2.2.1.length+2 * unm s.2.2.2.1) (fun r=>∃ seen,r=.inl ((N:Int),E,A,seen,n,c,v,())∧LookQ N E Q seen0 seen []) (by
   rintro _ ⟨seen,st,rfl,hL,hc'⟩
   match st with
   | [] =>
    right
    refine ⟨.inl ((N:Int),E,A,seen,n,c,v,()),?_,seen,rfl,hL⟩
    simp only [rF]
    rw [jp (by simp)]; rfl
   | d :: q =>
    left
    obtain ⟨u,rfl,huN,hus⟩:=hL.stk d (by simp)
    obtain ⟨l,hl⟩ : ∃ l,A[u]?=some l:=⟨_,A2 (by omega)⟩
    have hlm:=B2 hl
    have hll:=h.list_len hlm
    have hm1:=h.m1
    simp only [La] at hc'
    obtain ⟨seen',new,q1,q2,q3,q4,q5,q6⟩:=lV (fun k hk=>h.hd_lt hk) l 0 seen ((u:Int) :: q) hL.len (fun d hd'=>h.mem_of hlm hd')
    refine ⟨((N:Int),E,A,seen',q++new,n,c,v,()),?_,⟨seen',q++new,rfl,?_,?_⟩,?_⟩
    ·simp only [rF]
     rw [mm (by simp),cond_true]
     have e1:aQ ((u:Int) :: q).length 0=some 0:=ao (i:=0) (by simp)
     rw [e1,gr]
     simp only [Lt,gr]
     rw [aq,hl,gr,AH h seen ((u:Int) :: q) n c v l hL.len (by simp only [La]; omega) (fun d hd'=>h.mem_of hlm hd') (by omega),q1]
     simp only [gr,K7]
     have e3:kN ((u:Int) :: q++new).length 1 (((u:Int) :: q++new).length:Nat)=some (1,(q++new).length):=by
      simp only [kN,List.cons_append,La]
      rw [if_pos (by omega)]
      congr 2 <;> omega
     rw [e3,gr]
     have e4:(Pd 1 ((u:Int) :: q++new)).take (q++new).length=q++new:=by
      rw [show Pd 1 ((u:Int) :: q++new)=q++new from rfl,List.take_length]
     simp only
     rw [e4]
    ·exact hL.step h hQ huN (by simp) hl q (fun d=>by simp) q2 q4 q5 q6
    ·simp only [Lu]; omega
    ·simp only [Lu,La]; omega) ((N:Int),E,A,seen0,st0,n,c,v,()) ⟨seen0,st0,rfl,h0,hst⟩
 obtain ⟨seen,rfl,h3⟩:=h2
 exact ⟨seen,h1,h3⟩
structure Done (N:Nat) (E:List Arc) (k:Nat) (seen:List Bool):Prop where
 len:seen.length=N
 closed:∀ v:Nat,v < N→seen[v]?=some true→∀ d w:Nat,d < 2 * E.length→tl E d=v→hd E d=w→seen[w]?=some true
 old:∀ v:Nat,v < k→v < N→seen[v]?=some true
 from':∀ v:Nat,v < N→seen[v]?=some true→∃ u,u < k∧Reach E u v
theorem Done.reach (h:RotOK (N:Nat) E A) {k:Nat} {seen:List Bool} (hD:Done N E k seen):∀ {u v:Nat},Reach E u v→u < N→seen[u]?=some true→seen[v]?=some true:=by
 intro u v hr
 induction hr with
 | refl=>intro _ h; exact h
 | step hr' hk e1 e2 ih =>
  intro hu hs
  obtain ⟨u',e3,e4⟩:=h.tl_lt hk
  rw [e1] at e3
  have:_=u':=Ny e3
  subst this
  exact hD.closed _ e4 (ih hu hs) _ _ hk e1 e2
theorem iw (p:Nat→Bool) (k:Nat):(Le (k+1)).countP p=(Le k).countP p+cond (p k) 1 0:=by
 rw [N2,List.countP_append]
 cases h:p k <;> simp [h]
theorem Cm (h:RotOK (N:Nat) E A):Zk (((N:Int),E,A,()),())=some ((sA N E:Int),()):=by
 have h16:N≤16384:=by have:=h.n1; omega
 have outer:∀ (d k:Nat) (seen:List Bool),k+d=N→Done N E k seen→A9 ((N:Int),E,A,seen,(((Le k).countP (jF E):Nat):Int),(N:Int),(k:Int),())=some (.inl (((sA N E:Nat):Int),())):=by
  intro d
  induction d with
  | zero =>
   intro k seen hk hD
   have:k=N:=by omega
   subst this
   refine bW ?_
   simp only [rK]
   rw [aI (by omega)]; rfl
  | succ d ih =>
   intro k seen hk hD
   have hkN:k < N:=by omega
   have hcle:(Le k).countP (jF E)≤k:=by
    have:=M3 (p:=jF E) (l:=Le k)
    simpa using this
   obtain ⟨b,hb⟩ : ∃ b,seen[k]?=some b:=⟨_,A2 (by rw [hD.len]; exact hkN)⟩
   cases b with
   | true =>
    have hm:jF E k=false:=by
     cases e:jF E k with
     | false=>rfl
     | true =>
      obtain ⟨u,hu,hR⟩:=hD.from' k hkN hb
      exact absurd hR (qA.1 e u hu)
    have hc:(Le (k+1)).countP (jF E)=(Le k).countP (jF E):=by rw [iw,hm]; rfl
    have hs:rK ((N:Int),E,A,seen,(((Le k).countP (jF E):Nat):Int),(N:Int),(k:Int),())=some (.inl ((N:Int),E,A,seen,(((Le (k+1)).countP (jF E):Nat):Int),(N:Int),((k+1:Nat):Int),())):=by
     simp only [rK]
     rw [aM (by omega),cond_true,ao (by rw [hD.len]; exact hkN),gr,hb,gr,cond_true,bj (by omega),hc]
    refine (cI hs).trans (ih (k+1) seen (by omega) ⟨hD.len,hD.closed,fun v hv hvN=>?_,fun v hv hvs=>?_⟩)
    ·rcases LC (LX hv) with rfl | hlt
     ·exact hb
     ·exact hD.old v hlt hvN
    ·obtain ⟨u,hu,hR⟩:=hD.from' v hv hvs
     exact ⟨u,by omega,hR⟩
   | false =>
    have hm:jF E k=true:=by
     rw [qA]
     intro u hu hR
     have:=hD.reach h hR (by omega) (hD.old u hu (by omega))
     rw [hb] at this
     cases this
    have hc:(Le (k+1)).countP (jF E)=(Le k).countP (jF E)+1:=by rw [iw,hm]; rfl
    have hun:=gH hb
    have hunl:=pd seen
    rw [hD.len] at hunl
    have hset:∀ v:Nat,(seen.set k true)[v]?=some true→v=k∨seen[v]?=some true:=by
     intro v hv
     rw [Lm] at hv
     by_cases e:k=v
     ·exact .inl e.symm
     ·rw [if_neg e] at hv; exact .inr hv
    have hQ:∀ v w d:Nat,((seen[v]?=some true∧v < N)∨Reach E k v)→d < 2 * E.length→tl E d=v→hd E d=w→((seen[w]?=some true∧w < N)∨Reach E k w):=by
     intro v w d hv hd' e1 e2
     rcases hv with ⟨hv,hvN⟩ | hv
     ·obtain ⟨w',e3,e4⟩:=h.hd_lt hd'
      have:w=w':=by omega
      subst this
      exact .inl ⟨hD.closed v hvN hv d w hd' e1 e2,e4⟩
     ·exact .inr (.step hv hd' e1 e2)
    obtain ⟨seen',q1,q2⟩:=wL h hQ (seen.set k true) [(k:Int)] (by simp; omega) ⟨by simpa using hD.len,fun d hd'=>by
      simp at hd'; subst hd'
      exact ⟨k,rfl,hkN,by simp [hD.len,hkN]⟩,fun v hv hvs hn d w hd' e1 e2=>by
      rcases hset v hvs with rfl | hvs
      ·simp at hn
      ·obtain ⟨w',e3,e4⟩:=h.hd_lt hd'
       have:w=w':=by omega
       subst this
       have:=hD.closed v hv hvs d w hd' e1 e2
       rw [Lm]
       by_cases e:k=w
       ·subst e; simp [hD.len,hkN]
       ·rw [if_neg e]; exact this,fun v hv hvs=>by
      rcases hset v hvs with rfl | hvs
      ·exact .inr (.refl _)
      ·exact .inl ⟨hvs,hv⟩,fun _ _ h=>h⟩ (((Le k).countP (jF E):Nat)+1:Nat) (N:Int) (k:Int)
    have hs:rK ((N:Int),E,A,seen,(((Le k).countP (jF E):Nat):Int),(N:Int),(k:Int),())=some (.inl ((N:Int),E,A,seen',(((Le (k+1)).countP (jF E):Nat):Int),(N:Int),((k+1:Nat):Int),())):=by
     simp only [rK]
     rw [aM (by omega),cond_true,ao (by rw [hD.len]; exact hkN),gr,hb,gr,cond_false]
     simp only [ao (show k < seen.length by rw [hD.len]; exact hkN),gr,hb]
     rw [bj (a:=(Le k).countP (jF E)) (by omega),q1]
     simp only [gr,K7]
     rw [bj (a:=k) (by omega),hc]
    refine (cI hs).trans (ih (k+1) seen' (by omega) ⟨q2.len,fun v hv hvs d w hd' e1 e2=>q2.closed v hv hvs (by simp) d w hd' e1 e2,fun v hv hvN=>?_,fun v hv hvs=>?_⟩)
    ·refine q2.keep v hvN ?_
     rw [Lm]
     by_cases e:k=v
     ·subst e; simp [hD.len,hkN]
     ·rw [if_neg e]; exact hD.old v (by omega) hvN
    ·rcases q2.reach v hv hvs with ⟨hvs,_⟩ | hR
     ·obtain ⟨u,hu,hR⟩:=hD.from' v hv hvs
      exact ⟨u,by omega,hR⟩
     ·exact ⟨k,by omega,hR⟩
 have:=outer N 0 (A6 N false) (by omega) ⟨by simp,fun v hv hvs=>by simp [L3,hv] at hvs,fun v hv=>by omega,fun v hv hvs=>by simp [L3,hv] at hvs⟩
 unfold Zk
 simp only
 rw [dL (A7 _) (by omega),gr,show A6 N (az Ty.bool)=A6 N false from rfl,
  show A9 ((N:Int),E,A,A6 N false,0,(N:Int),0,())=_ from this]
 rfl
end
end Go.Vm

