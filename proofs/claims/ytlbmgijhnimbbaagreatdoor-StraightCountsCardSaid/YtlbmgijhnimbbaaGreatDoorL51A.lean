/-
 Points and segments, in the program and in the reference.
-/
import Derived.Test.YtlbmgijhnimbbaaGreatDoorDC37
import Derived.Test.YtlbmgijhnimbbaaGreatDoorVmD
import Derived.KernelRfl
set_option linter.unusedVariables false
set_option linter.unusedSimpArgs false
namespace Go.Vm
open Go.Proofs
set_option maxRecDepth 100000
attribute [local irreducible] aL
abbrev Pt:=Int×(Int×Unit)
def pv (p : Pt) : Bool:=geI p.1 (-268435456) && (leI p.1 268435456 && (geI p.2.1 (-268435456) && leI p.2.1 268435456))
theorem iW (p : Pt) : Zv (p,())=some (pv p,()):=by
 unfold Zv pv
 dsimp only
 cases geI p.1 (-268435456) <;> cases leI p.1 268435456 <;> cases geI p.2.1 (-268435456) <;> rfl
theorem dj (p : Pt) : Zk (p,())=some (pv p,()):=by
 unfold Zk pv
 dsimp only
 cases geI p.1 (-268435456) <;> cases leI p.1 268435456 <;> cases geI p.2.1 (-268435456) <;> rfl
def qM (a b p : Pt) : Int:=dF .i64 (iO .i64 (dF .i64 b.1 a.1) (dF .i64 p.2.1 a.2.1)) (iO .i64 (dF .i64 b.2.1 a.2.1) (dF .i64 p.1 a.1))
def sd (a b p : Pt) : Int:=cond (gtI (qM a b p) 0) 1 (cond (ltI (qM a b p) 0) (-1) 0)
theorem pz (a b p : Pt) : Zr ((a,b,()),p,())=some (sd a b p,()):=by
 change cond (gtI (qM a b p) 0) (some (1,())) (cond (ltI (qM a b p) 0) (some ((-1),())) (some (0,())))=_
 unfold sd
 cases gtI (qM a b p) 0 <;> cases ltI (qM a b p) 0 <;> rfl
theorem fS {a b p : Pt} (h1 : pv a=true) (h2 : pv b=true) (h3 : pv p=true) : Zg (a,b,p,())=some (sd a b p,()):=by
 unfold Zg
 change (Zk (a,())).bind (fun r1=>cond (!r1.1) (some (0,())) ((Zk (b,())).bind fun r2=>cond (!r2.1) (some (0,())) ((Zk (p,())).bind fun r3=>cond (!r3.1) (some (0,())) ((Zn (qM a b p,())).bind fun r4=>some (r4.1,())))))=_
 rw [dj,dj,dj,h1,h2,h3]
 simp only [Option.bind_some,Bool.not_true,cond_false]
 unfold Zn sd
 generalize qM a b p=t
 rcases Int.lt_trichotomy t 0 with h | h | h
 ·simp only [gl h,ru (Int.le_of_lt h)]; rfl
 ·subst h; rfl
 ·simp only [eM (Int.le_of_lt h),qA h]; rfl
def fx (a b c d : Pt) : Bool:=ltI (iO .i64 (sd a b c) (sd a b d)) 0
theorem xI (a b c d : Pt) : Zq ((a,b,()),(c,d,()),())=some (fx a b c d,()):=by
 change (Zr ((a,b,()),c,())).bind (fun r1=>(Zr ((a,b,()),d,())).bind fun r2=>some (ltI (iO .i64 r1.1 r2.1) 0,()))=_
 rw [pz,pz]; rfl
def spB (a b p : Pt) : Bool:=geI p.1 (fb a.1 b.1) && (leI p.1 (maxI a.1 b.1) && (geI p.2.1 (fb a.2.1 b.2.1) && leI p.2.1 (maxI a.2.1 b.2.1)))
theorem ya (a b p : Pt) : Zp ((a,b,()),p,())=some (spB a b p,()):=by
 unfold Zp spB
 simp only
 cases geI p.1 (fb a.1 b.1) <;> cases leI p.1 (maxI a.1 b.1) <;> cases geI p.2.1 (fb a.2.1 b.2.1) <;> rfl
def onB (a b p : Pt) : Bool:=spB a b p && eqI (sd a b p) 0
theorem xx (a b p : Pt) : Zt ((a,b,()),p,())=some (onB a b p,()):=by
 change (Zp ((a,b,()),p,())).bind (fun r1=>cond r1.1 ((Zr ((a,b,()),p,())).bind fun r2=>some (eqI r2.1 0,())) (some (false,())))=_
 rw [ya,pz]
 simp only [Option.bind_some,onB]
 cases spB a b p <;> rfl
theorem wM {a b : Pt} (h1 : pv a=true) (h2 : pv b=true) : Zx ((a,b,()),())=some ((a,b,()),(true,())):=by
 change (Zv (a,())).bind (fun r1=>cond r1.1 ((Zv (b,())).bind fun r2=>some ((a,b,()),(r2.1,()))) (some ((a,b,()),(false,()))))=_
 rw [iW,iW,h1,h2]; rfl
theorem A8 {a b p : Pt} (h1 : pv a=true) (h2 : pv b=true) (h3 : pv p=true) : Zy (p,(a,b,()),())=some (onB a b p,()):=by
 change (Zx ((a,b,()),())).bind (fun r1=>cond r1.2.1 ((Zv (p,())).bind fun r2=>cond r2.1 ((Zt (r1.1,p,())).bind fun r3=>some (r3.1,())) (some (false,()))) (some (false,())))=_
 rw [wM h1 h2,iW,h3]
 simp only [Option.bind_some,cond_true]
 rw [xx]; rfl
theorem iu {a b : Pt} (h1 : pv a=true) (h2 : pv b=true) : Zm ((a,b,()),())=some (true,()):=by
 change (Zk (a,())).bind (fun r1=>cond r1.1 ((Zk (b,())).bind fun r2=>some (r2.1,())) (some (false,())))=_
 rw [dj,dj,h1,h2]; rfl
theorem nv {a b p : Pt} (h1 : pv a=true) (h2 : pv b=true) (h3 : pv p=true) : Zs (p,(a,b,()),())=some (onB a b p,()):=by
 unfold Zs
 change (Zk (p,())).bind (fun r1=>cond (!r1.1) (some (false,())) ((Zm ((a,b,()),())).bind fun r2=>cond (!r2.1) (some (false,())) ((Zg (a,b,p,())).bind fun r3=>cond (neI r3.1 0) (some (false,())) (cond (geI p.1 (fb a.1 b.1)) (cond (leI p.1 (maxI a.1 b.1)) (cond (geI p.2.1 (fb a.2.1 b.2.1)) (some ((leI p.2.1 (maxI a.2.1 b.2.1)),())) (some (false,()))) (some (false,()))) (some (false,()))))))=_
 rw [dj,iu h1 h2,fS h1 h2 h3,h3]
 simp only [Option.bind_some,Bool.not_true,cond_false]
 unfold onB spB
 by_cases h : sd a b p=0
 ·rw [zD h,zF h]
  cases geI p.1 (fb a.1 b.1) <;> cases leI p.1 (maxI a.1 b.1) <;> cases geI p.2.1 (fb a.2.1 b.2.1) <;> cases leI p.2.1 (maxI a.2.1 b.2.1) <;> rfl
 ·rw [zQ h,A3 h,Bool.and_false]; rfl
def lN (a b c d : Pt) : Bool:=(fx a b c d && fx c d a b) || (onB a b c || (onB a b d || (onB c d a || onB c d b)))
theorem zq {a b c d : Pt} (h1 : pv a=true) (h2 : pv b=true) (h3 : pv c=true) (h4 : pv d=true) : Zw ((a,b,()),(c,d,()),())=some (lN a b c d,()):=by
 unfold Zw
 change (Zx ((a,b,()),())).bind (fun r1=>(Zx ((c,d,()),())).bind fun r2=>cond (!r1.2.1) (some (false,())) (cond (!r2.2.1) (some (false,())) ((Zq (r1.1,r2.1,())).bind fun r3=>cond r3.1 ((Zq (r2.1,r1.1,())).bind fun r4=>cond r4.1 (some (true,())) ((Zt (r1.1,r2.1.1,())).bind fun r5=>cond r5.1 (some (true,())) ((Zt (r1.1,r2.1.2.1,())).bind fun r6=>cond r6.1 (some (true,())) ((Zt (r2.1,r1.1.1,())).bind fun r7=>cond r7.1 (some (true,())) ((Zt (r2.1,r1.1.2.1,())).bind fun r8=>some (r8.1,())))))) ((Zt (r1.1,r2.1.1,())).bind fun r9=>cond r9.1 (some (true,())) ((Zt (r1.1,r2.1.2.1,())).bind fun r10=>cond r10.1 (some (true,())) ((Zt (r2.1,r1.1.1,())).bind fun r11=>cond r11.1 (some (true,())) ((Zt (r2.1,r1.1.2.1,())).bind fun r12=>some (r12.1,()))))))))=_
 rw [wM h1 h2,wM h3 h4]
 simp only [Option.bind_some,Bool.not_true,cond_false,xI,xx,lN]
 cases fx a b c d <;> cases fx c d a b <;> cases onB a b c <;> cases onB a b d <;> cases onB c d a <;> cases onB c d b <;> rfl
theorem wn {a b c d : Pt} (h1 : pv a=true) (h2 : pv b=true) (h3 : pv c=true) (h4 : pv d=true) : Zl ((a,b,()),(c,d,()),())=some (fx a b c d && fx c d a b,()):=by
 unfold Zl
 change (Zm ((a,b,()),())).bind (fun r1=>cond (!r1.1) (some (false,())) ((Zm ((c,d,()),())).bind fun r2=>cond (!r2.1) (some (false,())) ((Zg (a,b,c,())).bind fun r3=>(Zg (a,b,d,())).bind fun r4=>cond (ltI (iO .i64 r3.1 r4.1) 0) ((Zg (c,d,a,())).bind fun r5=>(Zg (c,d,b,())).bind fun r6=>some ((ltI (iO .i64 r5.1 r6.1) 0),())) (some (false,())))))=_
 rw [iu h1 h2,iu h3 h4,fS h1 h2 h3,fS h1 h2 h4,fS h3 h4 h1,fS h3 h4 h2]
 simp only [Option.bind_some,Bool.not_true,cond_false,fx]
 cases ltI (iO .i64 (sd a b c) (sd a b d)) 0 <;> rfl
theorem vU {a b c d : Pt} (h1 : pv a=true) (h2 : pv b=true) (h3 : pv c=true) (h4 : pv d=true) : Zo ((a,b,()),(c,d,()),())=some (lN a b c d,()):=by
 unfold Zo
 have e1:=wn h1 h2 h3 h4
 have e2:=nv h3 h4 h1
 have e3:=nv h3 h4 h2
 have e4:=nv h1 h2 h3
 have e5:=nv h1 h2 h4
 have e6:=iu h1 h2
 have e7:=iu h3 h4
 obtain ⟨a1,a2,a3⟩:=a
 obtain ⟨b1,b2,b3⟩:=b
 obtain ⟨c1,c2,c3⟩:=c
 obtain ⟨d1,d2,d3⟩:=d
 simp only [e1,e2,e3,e4,e5,e6,e7,Option.bind_some,lN,cond_true]
 generalize (fx (a1,a2,a3) (b1,b2,b3) (c1,c2,c3) (d1,d2,d3) && fx (c1,c2,c3) (d1,d2,d3) (a1,a2,a3) (b1,b2,b3))=x1
 generalize onB (a1,a2,a3) (b1,b2,b3) (c1,c2,c3)=x2
 generalize onB (a1,a2,a3) (b1,b2,b3) (d1,d2,d3)=x3
 generalize onB (c1,c2,c3) (d1,d2,d3) (a1,a2,a3)=x4
 generalize onB (c1,c2,c3) (d1,d2,d3) (b1,b2,b3)=x5
 cases x1 <;> cases x2 <;> cases x3 <;> cases x4 <;> cases x5 <;> rfl
end Go.Vm
