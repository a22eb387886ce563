/-
 The faces of a rectangular shape with places are rectangles.
-/
import Derived.Test.YtpgfkljmcacegaaDoorN42O
set_option linter.unusedVariables false
set_option linter.unusedSimpArgs false
namespace Go.Vm
open Go.Proofs
set_option maxRecDepth 100000
attribute [local irreducible] loopFix
theorem sum_idx (h : Int→Int) : ∀ l : List Int,(l.map h).sum=sumTo l.length (fun i=>h (l.getD i 0))
 | []=>rfl
 | a :: l=>by
  rw [List.map_cons,List.sum_cons,sum_idx h l,List.length_cons]
  have:=sumTo_split (fun i=>h ((a :: l).getD i 0)) 1 l.length
  rw [show 1+l.length=l.length+1 by omega] at this
  rw [this]
  have h1 : sumTo 1 (fun i=>h ((a :: l).getD i 0))=h a:=by simp [sumTo]
  rw [h1]
  congr 1
  refine sumTo_congr fun i _=>?_
  rw [show 1+i=i+1 by omega,List.getD_cons_succ]
def corN (g : List Int) (d : Nat) : Int:=if 2 - gN g (oth d)=0 then 0 else 1
theorem corS_val {g : List Int} {w : Int} : ∀ {f : List Int} {i : Nat} {n m : Int},foldE (corS g w) i n f=some (.inl m)→m=n+(f.map fun d=>corN g d.toNat).sum∧∀ d∈f,2 - gN g (oth d.toNat)=0∨2 - gN g (oth d.toNat)=w
 | [],_,n,m,h=>by simp only [foldE] at h; cases h; simp
 | d :: f,i,n,m,h=>by
  simp only [foldE,corS] at h
  by_cases c1 : 2 - gN g (oth d.toNat)=0
  ·rw [eqI_t c1] at h
   simp only [cond_true,Option.bind_some,Sum.elim_inl] at h
   obtain ⟨q1,q2⟩:=corS_val h
   refine ⟨?_,fun x hx=>?_⟩
   ·rw [List.map_cons,List.sum_cons,q1]
    have : corN g d.toNat=0:=if_pos c1
    omega
   ·rcases List.mem_cons.1 hx with rfl | hx
    ·exact .inl c1
    ·exact q2 x hx
  ·rw [eqI_f c1] at h
   by_cases c2 : 2 - gN g (oth d.toNat)=w
   ·rw [eqI_t c2] at h
    simp only [cond_true,cond_false,Option.bind_some,Sum.elim_inl] at h
    obtain ⟨q1,q2⟩:=corS_val h
    refine ⟨?_,fun x hx=>?_⟩
    ·rw [List.map_cons,List.sum_cons,q1]
     have : corN g d.toNat=1:=if_neg c1
     omega
    ·rcases List.mem_cons.1 hx with rfl | hx
     ·exact .inr c2
     ·exact q2 x hx
   ·rw [eqI_f c2] at h
    simp only [cond_false,Option.bind_some,Sum.elim_inr] at h
    cases h
theorem faceR_val {g : List Int} {w : Int} {f : List Int} (h : faceR g w f=true) : (f.map fun d=>corN g d.toNat).sum=4∧∀ d∈f,2 - gN g (oth d.toNat)=0∨2 - gN g (oth d.toNat)=w:=by
 unfold faceR at h
 split at h
 ·rename_i n hn
  obtain ⟨q1,q2⟩:=corS_val hn
  have : n=4:=by simpa [eqI] using h
  exact ⟨by omega,q2⟩
 ·cases h
structure Coord (E : List Arc) (k : Nat→Int) (X Y : Nat→Int) : Prop where
 r : ∀ d,d < 2 * E.length→k d=1→X (tln E d)+1≤X (tln E (oth d))∧Y (tln E (oth d))=Y (tln E d)
 l : ∀ d,d < 2 * E.length→k d=3→X (tln E (oth d))+1≤X (tln E d)∧Y (tln E (oth d))=Y (tln E d)
 u : ∀ d,d < 2 * E.length→k d=0→Y (tln E (oth d))+1≤Y (tln E d)∧X (tln E (oth d))=X (tln E d)
 dn : ∀ d,d < 2 * E.length→k d=2→Y (tln E d)+1≤Y (tln E (oth d))∧X (tln E (oth d))=X (tln E d)
def ThruD (E : List Arc) (k X Y : Nat→Int) (d : Nat) (p q : Int) : Prop :=
 (k d=1∧q=Y (tln E d)∧X (tln E d)≤p∧p < X (tln E (oth d)))∨(k d=3∧q=Y (tln E d)∧X (tln E (oth d)) < p∧p≤X (tln E d)) ∨
 (k d=2∧p=X (tln E d)∧Y (tln E d)≤q∧q < Y (tln E (oth d)))∨(k d=0∧p=X (tln E d)∧Y (tln E (oth d)) < q∧q≤Y (tln E d))
structure RectF (E : List Arc) (k X Y : Nat→Int) (In : Nat→Prop) (w xl xr yt yb : Int) : Prop where
 hx : xl < xr
 hy : yt < yb
 r : ∀ d,In d→k d=1→Y (tln E d)=(if w=1 then yb else yt)∧xl≤X (tln E d)∧X (tln E (oth d))≤xr
 u : ∀ d,In d→k d=0→X (tln E d)=(if w=1 then xr else xl)∧yt≤Y (tln E (oth d))∧Y (tln E d)≤yb
 l : ∀ d,In d→k d=3→Y (tln E d)=(if w=1 then yt else yb)∧xl≤X (tln E (oth d))∧X (tln E d)≤xr
 dn : ∀ d,In d→k d=2→X (tln E d)=(if w=1 then xl else xr)∧yt≤Y (tln E d)∧Y (tln E (oth d))≤yb
 uq : ∀ d e p q,In d→In e→k d=k e→ThruD E k X Y d p q→ThruD E k X Y e p q→d=e
 cu : ∀ t,yt≤t→t < yb→∃ d,In d∧k d=0∧Y (tln E (oth d))≤t∧t < Y (tln E d)
 cd : ∀ t,yt≤t→t < yb→∃ d,In d∧k d=2∧Y (tln E d)≤t∧t < Y (tln E (oth d))
section
variable {N : Nat} {E : List Arc} {A : List (List Int)} {nx fw g : List Int} {B : List ByteArray} {o : Int} {k X Y : Nat→Int}
theorem face_seq (h : RotOK (N : Nat) E A) (hn : Fol oth E A nx) (ff : Fol id E A fw) {c : Nat} {f : List Int} (hf : (facesOf nx)[c]?=some f) : ∃ D : Nat→Nat,0 < f.length∧(∀ i,f[i % f.length]?=some ((D i : Nat) : Int))∧(∀ i,D i < 2 * E.length∧fcn E nx (D i)=c∧D (i+1)=nxN fw (oth (D i)))∧(∀ i,D (i+f.length)=D i) ∧
  ∀ s d,d < 2 * E.length→fcn E nx d=c→∃ i,i < f.length∧D (s+i)=d:=by
 obtain ⟨hfs,hcy⟩:=facesOf_fs h hn
 have hm:=List.mem_of_getElem? hf
 obtain ⟨hne,hel⟩:=hfs.elem f hm
 have hpos : 0 < f.length:=List.length_pos_iff.2 hne
 have hget : ∀ i,f[i % f.length]?=some (((f.getD (i % f.length) 0).toNat : Nat) : Int):=by
  intro i
  have hlt : i % f.length < f.length:=Nat.mod_lt _ hpos
  obtain ⟨x,e,_⟩:=hel _ (List.getElem_mem hlt)
  rw [List.getD_eq_getElem?_getD,List.getElem?_eq_getElem hlt,Option.getD_some,e]; rfl
 have hin : ∀ i,(f.getD (i % f.length) 0).toNat < 2 * E.length∧fcn E nx (f.getD (i % f.length) 0).toNat=c:=by
  intro i
  have hmem:=List.mem_of_getElem? (hget i)
  obtain ⟨x,e,hx⟩:=hel _ hmem
  have hx2 : (f.getD (i % f.length) 0).toNat=x:=by omega
  refine ⟨by omega,fcn_of h hn hf hmem⟩
 refine ⟨fun i=>(f.getD (i % f.length) 0).toNat,hpos,hget,fun i=>⟨(hin i).1,(hin i).2,?_⟩,fun i=>by simp only [Nat.add_mod_right],fun s d hd hfd=>?_⟩
 ·have hlt : i % f.length < f.length:=Nat.mod_lt _ hpos
  have h1:=(hcy f hm).2 (i % f.length) hlt
  have e1 : f[i % f.length]=(((f.getD (i % f.length) 0).toNat : Nat) : Int):=by
   have:=hget i
   rw [List.getElem?_eq_getElem hlt] at this
   exact Option.some.inj this
  have hlt2 : (i+1) % f.length < f.length:=Nat.mod_lt _ hpos
  have e2 : f.getD ((i+1) % f.length) 0=(((f.getD ((i+1) % f.length) 0).toNat : Nat) : Int):=by
   obtain ⟨x,e,_⟩:=hel _ (List.getElem_mem hlt2)
   have : f.getD ((i+1) % f.length) 0=(x : Int):=by rw [List.getD_eq_getElem?_getD,List.getElem?_eq_getElem hlt2,Option.getD_some,e]
   omega
  rw [e1,Int.toNat_natCast,Nat.mod_add_mod,e2] at h1
  obtain ⟨y,y1,y2,y3,_⟩:=fw_next h hn ff (oth_lt (hin i).1)
  rw [oth_oth,h1] at y3
  have:=(nxN_eq (fw_ok h hn ff) (oth_lt (hin i).1)).1
  rw [y2] at this
  have a1:=Option.some.inj y3
  have a2:=Option.some.inj this
  simp only
  omega
 ·obtain ⟨f',f1,f2,_⟩:=fcn_face h hn hd
  rw [hfd,hf] at f1
  have : f=f':=Option.some.inj f1
  subst this
  obtain ⟨j,hj,ej⟩:=List.getElem_of_mem f2
  have hr : s % f.length < f.length:=Nat.mod_lt _ hpos
  refine ⟨(j+f.length - s % f.length) % f.length,Nat.mod_lt _ hpos,?_⟩
  have hmod : (s+(j+f.length - s % f.length) % f.length) % f.length=j:=by
   rw [Nat.add_mod_mod]
   have hs:=Nat.div_add_mod s f.length
   have : s+(j+f.length - s % f.length)=j+f.length * (s / f.length+1):=by
    rw [Nat.mul_add,Nat.mul_one]
    omega
   rw [this,Nat.add_mul_mod_self_left,Nat.mod_eq_of_lt hj]
  simp only
  rw [hmod,List.getD_eq_getElem?_getD,List.getElem?_eq_getElem hj,Option.getD_some,ej]; rfl
theorem rect_face (h : ShapeOK N E A g B o nx) (ff : Fol id E A fw) (p : Plane N (facesOf nx).length E.length (tln E) (fcn E nx) (nxN fw)) (hk : Dirs E.length (nxN fw) (gN g) k) (hC : Coord E k X Y) {c : Nat} {f : List Int} (hf : (facesOf nx)[c]?=some f) {w : Int} (hw : w=1∨w=-1) (hR : faceR g w f=true) :
  ∃ xl xr yt yb,RectF E k X Y (fun d=>d < 2 * E.length∧fcn E nx d=c) w xl xr yt yb:=by
 obtain ⟨D,hpos,hget,hD,hper,hcov⟩:=face_seq h.rot h.folOK ff hf
 obtain ⟨r1,r2⟩:=faceR_val hR
 have hcor : ∀ i,2 - gN g (oth (D i))=0∨2 - gN g (oth (D i))=w:=fun i=>by
  have:=r2 _ (List.mem_of_getElem? (hget i))
  simpa using this
 have hsum : sumTo f.length (fun i=>corN g (D i))=4:=by
  rw [← r1,sum_idx]
  refine sumTo_congr fun i hi=>?_
  have:=hget i
  rw [Nat.mod_eq_of_lt hi] at this
  rw [List.getD_eq_getElem?_getD,this]; rfl
 have hc01 : ∀ d,corN g d=0∨corN g d=1:=fun d=>by unfold corN; split <;> simp
 obtain ⟨s,L,l0,l1,l2,l3⟩:=four_corners (n:=f.length) (κ:=fun i=>k (D i)) (c:=fun i=>corN g (D i)) hpos hw (fun i=>hk.nn _ (hD i).1) (fun i=>hc01 _) (fun i=>by
  obtain ⟨d1,d2,d3⟩:=hD i
  have a1:=hk.fw _ (oth_lt d1)
  have a2:=hk.oth _ d1
  rw [d3]
  have hcv : w * corN g (D i)=2 - gN g (oth (D i)):=by
   unfold corN
   rcases hcor i with e | e
   ·rw [if_pos e,e]; omega
   ·rw [if_neg (by rcases hw with rfl | rfl <;> omega),e]; omega
  rw [hcv]
  omega) (fun i=>by simp only [hper]) (fun i=>by simp only [hper]) hsum
 have lrange : ∀ i,i < f.length→0≤L i∧L i≤3:=by
  intro i hi
  have up : ∀ m i,L i≤L (i+m):=by
   intro m
   induction m with
   | zero=>intro i; exact Int.le_refl _
   | succ m ih =>
    intro i
    have:=ih i
    have:=l1 (i+m)
    rw [show i+(m+1)=i+m+1 by omega]
    omega
  have a:=up i 0
  have b:=up (f.length - 1 - i) i
  rw [Nat.zero_add] at a
  rw [show i+(f.length - 1 - i)=f.length - 1 by omega] at b
  omega
 have nxt : ∀ i,tln E (D (s+(i+1)))=tln E (oth (D (s+i))):=fun i=>by
  obtain ⟨d1,d2,d3⟩:=hD (s+i)
  rw [show s+(i+1)=s+i+1 by omega,d3,p.tlf _ (oth_lt2 d1)]
 have kv : ∀ i,0≤k (D (s+i))∧k (D (s+i)) < 4:=fun i=>hk.nn _ (hD (s+i)).1
 have step : ∀ i,i < f.length→(L i=0↔k (D (s+i))=1)∧(L i=2↔k (D (s+i))=3)∧(L i=1↔k (D (s+i))=(if w=1 then 0 else 2))∧(L i=3↔k (D (s+i))=(if w=1 then 2 else 0)):=fun i hi=>by
  have a:=lrange i hi
  have b:=kv i
  have c:=l3 i
  rcases hw with rfl | rfl
  ·rw [if_pos rfl,if_pos rfl]; omega
  ·rw [if_neg (by decide),if_neg (by decide)]; omega
 have dat : ∀ i,D (s+i) < 2 * E.length:=fun i=>(hD (s+i)).1
 obtain ⟨xl,xr,yt,yb,S⟩:=sides_of (n:=f.length) (L:=L) (x:=fun i=>X (tln E (D (s+i)))) (y:=fun i=>w * Y (tln E (D (s+i)))) l0 (fun i _=>l1 i) hpos l2
  (fun i hi e=>by
   have:=hC.r _ (dat i) ((step i hi).1.1 e)
   rw [nxt,this.2]; exact ⟨this.1,rfl⟩)
  (fun i hi e=>by
   have e2:=(step i hi).2.2.1.1 e
   rw [nxt]
   rcases hw with rfl | rfl
   ·have:=hC.u _ (dat i) e2
    omega
   ·have:=hC.dn _ (dat i) e2
    omega)
  (fun i hi e=>by
   have:=hC.l _ (dat i) ((step i hi).2.1.1 e)
   rw [nxt,this.2]; exact ⟨this.1,rfl⟩)
  (fun i hi e=>by
   have e2:=(step i hi).2.2.2.1 e
   rw [nxt]
   rcases hw with rfl | rfl
   ·have:=hC.dn _ (dat i) e2
    omega
   ·have:=hC.u _ (dat i) e2
    omega) (by simp only [hper,Nat.add_zero]) (by simp only [hper,Nat.add_zero])
 have pick : ∀ d,d < 2 * E.length∧fcn E nx d=c→∃ i,i < f.length∧D (s+i)=d:=fun d hd=>hcov s d hd.1 hd.2
 have nx2 : ∀ i,X (tln E (D (s+(i+1))))=X (tln E (oth (D (s+i))))∧Y (tln E (D (s+(i+1))))=Y (tln E (oth (D (s+i)))):=fun i=>by rw [nxt]; exact ⟨rfl,rfl⟩
 have P0:=S.p0
 have P1:=S.p1
 have P2:=S.p2
 have P3:=S.p3
 have U0:=S.u0
 have U1:=S.u1
 have U2:=S.u2
 have U3:=S.u3
 have C1:=S.c1
 have C3:=S.c3
 have HY:=S.hy
 simp only [nx2] at P0 P1 P2 P3 U0 U1 U2 U3 C1 C3
 rcases hw with rfl | rfl
 ·refine ⟨xl,xr,yt,yb,S.hx,S.hy,?_,?_,?_,?_,?_,?_,?_⟩
  ·intro d hd e
   obtain ⟨i,hi,rfl⟩:=pick d hd
   have:=P0 i hi ((step i hi).1.2 e)
   rw [if_pos rfl]; omega
  ·intro d hd e
   obtain ⟨i,hi,rfl⟩:=pick d hd
   have:=P1 i hi ((step i hi).2.2.1.2 e)
   rw [if_pos rfl]; omega
  ·intro d hd e
   obtain ⟨i,hi,rfl⟩:=pick d hd
   have:=P2 i hi ((step i hi).2.1.2 e)
   rw [if_pos rfl]; omega
  ·intro d hd e
   obtain ⟨i,hi,rfl⟩:=pick d hd
   have:=P3 i hi ((step i hi).2.2.2.2 e)
   rw [if_pos rfl]; omega
  ·intro d e p q hd he hde t1 t2
   obtain ⟨i,hi,rfl⟩:=pick d hd
   obtain ⟨j,hj,rfl⟩:=pick e he
   by_cases c : i=j
   ·rw [c]
   ·exfalso
    rcases t1 with t1 | t1 | t1 | t1 <;> rcases t2 with t2 | t2 | t2 | t2 <;> try omega
    ·have:=U0 i j hi hj c ((step i hi).1.2 t1.1) ((step j hj).1.2 t2.1); omega
    ·have:=U2 i j hi hj c ((step i hi).2.1.2 t1.1) ((step j hj).2.1.2 t2.1); omega
    ·have:=U3 i j hi hj c ((step i hi).2.2.2.2 t1.1) ((step j hj).2.2.2.2 t2.1); omega
    ·have:=U1 i j hi hj c ((step i hi).2.2.1.2 t1.1) ((step j hj).2.2.1.2 t2.1); omega
  ·intro t h1 h2
   obtain ⟨i,hi,e,a,b⟩:=C1 t h1 h2
   exact ⟨_,⟨(hD (s+i)).1,(hD (s+i)).2.1⟩,(step i hi).2.2.1.1 e,by omega,by omega⟩
  ·intro t h1 h2
   obtain ⟨i,hi,e,a,b⟩:=C3 t h1 h2
   exact ⟨_,⟨(hD (s+i)).1,(hD (s+i)).2.1⟩,(step i hi).2.2.2.1 e,by omega,by omega⟩
 ·refine ⟨xl,xr,-yb,-yt,S.hx,by omega,?_,?_,?_,?_,?_,?_,?_⟩
  ·intro d hd e
   obtain ⟨i,hi,rfl⟩:=pick d hd
   have:=P0 i hi ((step i hi).1.2 e)
   rw [if_neg (by decide)]; omega
  ·intro d hd e
   obtain ⟨i,hi,rfl⟩:=pick d hd
   have:=P3 i hi ((step i hi).2.2.2.2 e)
   rw [if_neg (by decide)]; omega
  ·intro d hd e
   obtain ⟨i,hi,rfl⟩:=pick d hd
   have:=P2 i hi ((step i hi).2.1.2 e)
   rw [if_neg (by decide)]; omega
  ·intro d hd e
   obtain ⟨i,hi,rfl⟩:=pick d hd
   have:=P1 i hi ((step i hi).2.2.1.2 e)
   rw [if_neg (by decide)]; omega
  ·intro d e p q hd he hde t1 t2
   obtain ⟨i,hi,rfl⟩:=pick d hd
   obtain ⟨j,hj,rfl⟩:=pick e he
   by_cases c : i=j
   ·rw [c]
   ·exfalso
    rcases t1 with t1 | t1 | t1 | t1 <;> rcases t2 with t2 | t2 | t2 | t2 <;> try omega
    ·have:=U0 i j hi hj c ((step i hi).1.2 t1.1) ((step j hj).1.2 t2.1); omega
    ·have:=U2 i j hi hj c ((step i hi).2.1.2 t1.1) ((step j hj).2.1.2 t2.1); omega
    ·have:=U1 i j hi hj c ((step i hi).2.2.1.2 t1.1) ((step j hj).2.2.1.2 t2.1); omega
    ·have:=U3 i j hi hj c ((step i hi).2.2.2.2 t1.1) ((step j hj).2.2.2.2 t2.1); omega
  ·intro t h1 h2
   obtain ⟨i,hi,e,a,b⟩:=C3 (-t - 1) (by omega) (by omega)
   exact ⟨_,⟨(hD (s+i)).1,(hD (s+i)).2.1⟩,(step i hi).2.2.2.1 e,by omega,by omega⟩
  ·intro t h1 h2
   obtain ⟨i,hi,e,a,b⟩:=C1 (-t - 1) (by omega) (by omega)
   exact ⟨_,⟨(hD (s+i)).1,(hD (s+i)).2.1⟩,(step i hi).2.2.1.1 e,by omega,by omega⟩
end
end Go.Vm
