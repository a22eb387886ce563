/-
 Points and segments, in the program and in the reference; edges that touch.
-/
import Derived.Test.YtpgfkljmcacegaaDoorN42K
set_option linter.unusedVariables false
set_option linter.unusedSimpArgs false
namespace Go.Vm
open Go.Proofs
set_option maxRecDepth 100000
attribute [local irreducible] loopFix
abbrev Pt:=Int×Int×Unit
def vP (p : Pt) : Bool:=geI p.1 (-268435456) && (leI p.1 268435456 && (geI p.2.1 (-268435456) && leI p.2.1 268435456))
def sgZ (n : Int) : Int:=if n > 0 then 1 else if n < 0 then -1 else 0
def detP (a b p : Pt) : Int:=subI .i64 (mulI .i64 (subI .i64 b.1 a.1) (subI .i64 p.2.1 a.2.1)) (mulI .i64 (subI .i64 b.2.1 a.2.1) (subI .i64 p.1 a.1))
def spanB (a b p : Pt) : Bool:=geI p.1 (minI a.1 b.1) && (leI p.1 (maxI a.1 b.1) && (geI p.2.1 (minI a.2.1 b.2.1) && leI p.2.1 (maxI a.2.1 b.2.1)))
def onB (p a b : Pt) : Bool:=spanB a b p && eqI (sgZ (detP a b p)) 0
def partsB (a b c d : Pt) : Bool:=ltI (mulI .i64 (sgZ (detP a b c)) (sgZ (detP a b d))) 0
def meetB (a b c d : Pt) : Bool:=(partsB a b c d && partsB c d a b) || (onB c a b || (onB d a b || (onB a c d || onB b c d)))
theorem pvalid (p : Pt) : Zca (p,())=some (vP p,()):=by
 unfold Zca vP
 simp only
 cases geI p.1 (-268435456) <;> cases leI p.1 268435456 <;> cases geI p.2.1 (-268435456) <;> rfl
theorem rvalidP (p : Pt) : Zy (p,())=some (vP p,()):=by
 unfold Zy vP
 simp only
 cases geI p.1 (-268435456) <;> cases leI p.1 268435456 <;> cases geI p.2.1 (-268435456) <;> rfl
theorem side_eq (a b p : Pt) : Zbe ((a,b,()),p,())=some (sgZ (detP a b p),()):=by
 unfold Zbe
 show cond (gtI (detP a b p) 0) (some (1,())) (cond (ltI (detP a b p) 0) (some (-1,())) (some (0,())))=_
 unfold sgZ
 by_cases c1 : detP a b p > 0
 ·rw [gtI_t c1,if_pos c1]; rfl
 ·rw [gtI_f (by omega),if_neg c1]
  by_cases c2 : detP a b p < 0
  ·rw [ltI_t c2,if_pos c2]; rfl
  ·rw [ltI_f (by omega),if_neg c2]; rfl
theorem sign_eq (n : Int) : Zar (n,())=some (sgZ n,()):=by
 unfold Zar sgZ
 simp only
 by_cases c1 : n > 0
 ·rw [ltI_f (by omega),gtI_t c1,if_pos c1]; rfl
 ·by_cases c2 : n < 0
  ·rw [ltI_t c2,if_neg c1,if_pos c2]; rfl
  ·rw [ltI_f (by omega),gtI_f (by omega),if_neg c1,if_neg c2]; rfl
theorem orient_eq {a b p : Pt} (ha : vP a=true) (hb : vP b=true) (hp : vP p=true) : Zt (a,b,p,())=some (sgZ (detP a b p),()):=by
 unfold Zt
 simp only
 rw [show Zy ((a.1,a.2.1,()),())=_ from rvalidP a,ha,Option.bind_some]
 simp only [Bool.not_true,cond_false]
 rw [show Zy ((b.1,b.2.1,()),())=_ from rvalidP b,hb,Option.bind_some]
 simp only [Bool.not_true,cond_false]
 rw [show Zy ((p.1,p.2.1,()),())=_ from rvalidP p,hp,Option.bind_some]
 simp only [Bool.not_true,cond_false]
 rw [sign_eq]; rfl
theorem span_eq (a b p : Pt) : Zas ((a,b,()),p,())=some (spanB a b p,()):=by
 unfold Zas spanB
 simp only
 cases geI p.1 (minI a.1 b.1) <;> cases leI p.1 (maxI a.1 b.1) <;> cases geI p.2.1 (minI a.2.1 b.2.1) <;> rfl
theorem lon_eq (a b p : Pt) : Zbo ((a,b,()),p,())=some (onB p a b,()):=by
 unfold Zbo onB
 simp only
 rw [show Zas (((a.1,a.2.1,()),(b.1,b.2.1,()),()),(p.1,p.2.1,()),())=_ from span_eq a b p,Option.bind_some]
 cases spanB a b p with
 | false=>rfl
 | true =>
  simp only [cond_true]
  rw [show Zbe (((a.1,a.2.1,()),(b.1,b.2.1,()),()),(p.1,p.2.1,()),())=_ from side_eq a b p]; rfl
theorem of_eq {a b : Pt} (ha : vP a=true) (hb : vP b=true) : Zcf ((a,b,()),())=some ((a,b,()),true,()):=by
 unfold Zcf
 simp only
 rw [show Zca ((a.1,a.2.1,()),())=_ from pvalid a,ha,Option.bind_some]
 simp only [cond_true]
 rw [show Zca ((b.1,b.2.1,()),())=_ from pvalid b,hb]; rfl
theorem on_eq {a b p : Pt} (ha : vP a=true) (hb : vP b=true) (hp : vP p=true) : Zce (p,(a,b,()),())=some (onB p a b,()):=by
 unfold Zce
 simp only
 rw [show Zcf (((a.1,a.2.1,()),(b.1,b.2.1,()),()),())=_ from of_eq ha hb,Option.bind_some]
 simp only [cond_true]
 rw [show Zca ((p.1,p.2.1,()),())=_ from pvalid p,hp,Option.bind_some]
 simp only [cond_true]
 rw [show Zbo (((a.1,a.2.1,()),(b.1,b.2.1,()),()),(p.1,p.2.1,()),())=_ from lon_eq a b p]; rfl
theorem whole_eq {a b : Pt} (ha : vP a=true) (hb : vP b=true) : Zae ((a,b,()),())=some (true,()):=by
 unfold Zae
 simp only
 rw [show Zy ((a.1,a.2.1,()),())=_ from rvalidP a,ha,Option.bind_some]
 simp only [cond_true]
 rw [show Zy ((b.1,b.2.1,()),())=_ from rvalidP b,hb]; rfl
theorem ron_eq {a b p : Pt} (ha : vP a=true) (hb : vP b=true) (hp : vP p=true) : Zbj (p,(a,b,()),())=some (onB p a b,()):=by
 unfold Zbj onB spanB
 simp only
 rw [show Zy ((p.1,p.2.1,()),())=_ from rvalidP p,hp,Option.bind_some]
 simp only [Bool.not_true,cond_false]
 rw [show Zae (((a.1,a.2.1,()),(b.1,b.2.1,()),()),())=_ from whole_eq ha hb,Option.bind_some]
 simp only [Bool.not_true,cond_false]
 rw [show Zt ((a.1,a.2.1,()),(b.1,b.2.1,()),(p.1,p.2.1,()),())=_ from orient_eq ha hb hp,Option.bind_some]
 simp only
 by_cases c : sgZ (detP a b p)=0
 ·rw [neI_f c,eqI_t c,Bool.and_true]
  cases geI p.1 (minI a.1 b.1) <;> cases leI p.1 (maxI a.1 b.1) <;> cases geI p.2.1 (minI a.2.1 b.2.1) <;> rfl
 ·rw [neI_t c,eqI_f c,Bool.and_false]; rfl
theorem parts_eq42 (a b c d : Pt) : Zau ((a,b,()),(c,d,()),())=some (partsB a b c d,()):=by
 unfold Zau partsB
 simp only
 rw [show Zbe (((a.1,a.2.1,()),(b.1,b.2.1,()),()),(c.1,c.2.1,()),())=_ from side_eq a b c,Option.bind_some]
 rw [show Zbe (((a.1,a.2.1,()),(b.1,b.2.1,()),()),(d.1,d.2.1,()),())=_ from side_eq a b d]; rfl
theorem meet_eq {a b c d : Pt} (ha : vP a=true) (hb : vP b=true) (hc : vP c=true) (hd : vP d=true) : Zcd ((a,b,()),(c,d,()),())=some (meetB a b c d,()):=by
 unfold Zcd meetB
 simp only
 rw [show Zcf (((a.1,a.2.1,()),(b.1,b.2.1,()),()),())=_ from of_eq ha hb,show Zcf (((c.1,c.2.1,()),(d.1,d.2.1,()),()),())=_ from of_eq hc hd]
 simp only [Option.bind_some,Bool.not_true,cond_false]
 rw [show Zau (((a.1,a.2.1,()),(b.1,b.2.1,()),()),((c.1,c.2.1,()),(d.1,d.2.1,()),()),())=_ from parts_eq42 a b c d,
  show Zau (((c.1,c.2.1,()),(d.1,d.2.1,()),()),((a.1,a.2.1,()),(b.1,b.2.1,()),()),())=_ from parts_eq42 c d a b,
  show Zbo (((a.1,a.2.1,()),(b.1,b.2.1,()),()),(c.1,c.2.1,()),())=_ from lon_eq a b c,
  show Zbo (((a.1,a.2.1,()),(b.1,b.2.1,()),()),(d.1,d.2.1,()),())=_ from lon_eq a b d,
  show Zbo (((c.1,c.2.1,()),(d.1,d.2.1,()),()),(a.1,a.2.1,()),())=_ from lon_eq c d a,
  show Zbo (((c.1,c.2.1,()),(d.1,d.2.1,()),()),(b.1,b.2.1,()),())=_ from lon_eq c d b]
 simp only [Option.bind_some]
 cases partsB a b c d <;> cases partsB c d a b <;> cases onB c a b <;> cases onB d a b <;> cases onB a c d <;> rfl
theorem cross_eq {a b c d : Pt} (ha : vP a=true) (hb : vP b=true) (hc : vP c=true) (hd : vP d=true) : Zag ((a,b,()),(c,d,()),())=some (partsB a b c d && partsB c d a b,()):=by
 unfold Zag partsB
 simp only
 rw [show Zae (((a.1,a.2.1,()),(b.1,b.2.1,()),()),())=_ from whole_eq ha hb,show Zae (((c.1,c.2.1,()),(d.1,d.2.1,()),()),())=_ from whole_eq hc hd]
 simp only [Option.bind_some,Bool.not_true,cond_false]
 rw [show Zt ((a.1,a.2.1,()),(b.1,b.2.1,()),(c.1,c.2.1,()),())=_ from orient_eq ha hb hc,show Zt ((a.1,a.2.1,()),(b.1,b.2.1,()),(d.1,d.2.1,()),())=_ from orient_eq ha hb hd,
  show Zt ((c.1,c.2.1,()),(d.1,d.2.1,()),(a.1,a.2.1,()),())=_ from orient_eq hc hd ha,show Zt ((c.1,c.2.1,()),(d.1,d.2.1,()),(b.1,b.2.1,()),())=_ from orient_eq hc hd hb]
 simp only [Option.bind_some]
 cases ltI (mulI .i64 (sgZ (detP a b c)) (sgZ (detP a b d))) 0 <;> rfl
theorem rmeet_eq {a b c d : Pt} (ha : vP a=true) (hb : vP b=true) (hc : vP c=true) (hd : vP d=true) : Zaw ((a,b,()),(c,d,()),())=some (meetB a b c d,()):=by
 unfold Zaw meetB
 simp only
 rw [show Zag (((a.1,a.2.1,()),(b.1,b.2.1,()),()),((c.1,c.2.1,()),(d.1,d.2.1,()),()),())=_ from cross_eq ha hb hc hd,
  show Zbj ((a.1,a.2.1,()),((c.1,c.2.1,()),(d.1,d.2.1,()),()),())=_ from ron_eq hc hd ha,show Zbj ((b.1,b.2.1,()),((c.1,c.2.1,()),(d.1,d.2.1,()),()),())=_ from ron_eq hc hd hb,
  show Zbj ((c.1,c.2.1,()),((a.1,a.2.1,()),(b.1,b.2.1,()),()),())=_ from ron_eq ha hb hc,show Zbj ((d.1,d.2.1,()),((a.1,a.2.1,()),(b.1,b.2.1,()),()),())=_ from ron_eq ha hb hd,
  show Zae (((a.1,a.2.1,()),(b.1,b.2.1,()),()),())=_ from whole_eq ha hb,show Zae (((c.1,c.2.1,()),(d.1,d.2.1,()),()),())=_ from whole_eq hc hd]
 simp only [Option.bind_some]
 cases partsB a b c d <;> cases partsB c d a b <;> cases onB c a b <;> cases onB d a b <;> cases onB a c d <;> cases onB b c d <;> rfl
theorem touch_eq (N' : Int) (E : List Arc) (A : List (List Int)) (P : List Pt) (i j : Nat) (x y : Arc) (hx : E[i]?=some x) (hy : E[j]?=some y) {p1 p2 p3 p4 : Pt} (g1 : getI P x.1=some p1) (g2 : getI P x.2.1=some p2) (g3 : getI P y.1=some p3) (g4 : getI P y.2.1=some p4)
  (v1 : vP p1=true) (v2 : vP p2=true) (v3 : vP p3=true) (v4 : vP p4=true) (hx2 : x.1≠x.2.1) (hy2 : y.1≠y.2.1) :
  ∃ t : Bool,Zbu (P,x,y,())=some (!t,())∧Zak ((N',E,A,()),P,(i : Int),(j : Int),())=some (t,()):=by
 unfold Zbu Zak
 simp only [getI_of,hx,hy,g1,g2,g3,g4,Option.bind_some]
 rw [show Zce ((p1.1,p1.2.1,()),((p3.1,p3.2.1,()),(p4.1,p4.2.1,()),()),())=_ from on_eq v3 v4 v1,show Zce ((p2.1,p2.2.1,()),((p3.1,p3.2.1,()),(p4.1,p4.2.1,()),()),())=_ from on_eq v3 v4 v2,
  show Zce ((p3.1,p3.2.1,()),((p1.1,p1.2.1,()),(p2.1,p2.2.1,()),()),())=_ from on_eq v1 v2 v3,show Zce ((p4.1,p4.2.1,()),((p1.1,p1.2.1,()),(p2.1,p2.2.1,()),()),())=_ from on_eq v1 v2 v4,
  show Zbj ((p1.1,p1.2.1,()),((p3.1,p3.2.1,()),(p4.1,p4.2.1,()),()),())=_ from ron_eq v3 v4 v1,show Zbj ((p2.1,p2.2.1,()),((p3.1,p3.2.1,()),(p4.1,p4.2.1,()),()),())=_ from ron_eq v3 v4 v2,
  show Zbj ((p3.1,p3.2.1,()),((p1.1,p1.2.1,()),(p2.1,p2.2.1,()),()),())=_ from ron_eq v1 v2 v3,show Zbj ((p4.1,p4.2.1,()),((p1.1,p1.2.1,()),(p2.1,p2.2.1,()),()),())=_ from ron_eq v1 v2 v4,
  show Zcd (((p1.1,p1.2.1,()),(p2.1,p2.2.1,()),()),((p3.1,p3.2.1,()),(p4.1,p4.2.1,()),()),())=_ from meet_eq v1 v2 v3 v4,show Zaw (((p1.1,p1.2.1,()),(p2.1,p2.2.1,()),()),((p3.1,p3.2.1,()),(p4.1,p4.2.1,()),()),())=_ from rmeet_eq v1 v2 v3 v4]
 generalize onB p1 p3 p4=o1
 generalize onB p2 p3 p4=o2
 generalize onB p3 p1 p2=o3
 generalize onB p4 p1 p2=o4
 generalize meetB p1 p2 p3 p4=mm
 simp only [Option.bind_some]
 by_cases c1 : x.1=y.1
 ·have n1 : x.1≠y.2.1:=fun e=>hy2 (by rw [← c1,e])
  have n2 : x.2.1≠y.1:=fun e=>hx2 (by rw [e,c1])
  rw [eqI_t c1,eqI_f n1,eqI_f n2,neI_f c1,neI_t n1,neI_t n2,neI_f c1.symm,neI_t (Ne.symm n1),neI_t (Ne.symm n2)]
  simp only [cond_true,cond_false]
  by_cases c2 : x.2.1=y.2.1
  ·rw [eqI_t c2,neI_f c2,neI_f c2.symm]; exact ⟨true,rfl,rfl⟩
  ·rw [eqI_f c2,neI_t c2,neI_t (Ne.symm c2)]
   cases o2 <;> cases o4
   ·exact ⟨false,rfl,rfl⟩
   ·exact ⟨true,rfl,rfl⟩
   ·exact ⟨true,rfl,rfl⟩
   ·exact ⟨true,rfl,rfl⟩
 ·by_cases c2 : x.1=y.2.1
  ·have n2 : x.2.1≠y.2.1:=fun e=>hx2 (by rw [e,c2])
   rw [eqI_f c1,eqI_t c2,eqI_f n2,neI_t c1,neI_f c2,neI_t n2,neI_t (Ne.symm c1),neI_f c2.symm,neI_t (Ne.symm n2)]
   simp only [cond_true,cond_false]
   by_cases c3 : x.2.1=y.1
   ·rw [eqI_t c3,neI_f c3,neI_f c3.symm]; exact ⟨true,rfl,rfl⟩
   ·rw [eqI_f c3,neI_t c3,neI_t (Ne.symm c3)]
    cases o2 <;> cases o3
    ·exact ⟨false,rfl,rfl⟩
    ·exact ⟨true,rfl,rfl⟩
    ·exact ⟨true,rfl,rfl⟩
    ·exact ⟨true,rfl,rfl⟩
  ·rw [eqI_f c1,eqI_f c2,neI_t c1,neI_t c2,neI_t (Ne.symm c1),neI_t (Ne.symm c2)]
   simp only [cond_true,cond_false]
   by_cases c3 : x.2.1=y.1
   ·have n3 : x.2.1≠y.2.1:=fun e=>hy2 (by rw [← c3,e])
    rw [eqI_t c3,neI_f c3,neI_f c3.symm,neI_t n3,neI_t (Ne.symm n3)]
    try rw [eqI_f n3]
    cases o1 <;> cases o4
    ·exact ⟨false,rfl,rfl⟩
    ·exact ⟨true,rfl,rfl⟩
    ·exact ⟨true,rfl,rfl⟩
    ·exact ⟨true,rfl,rfl⟩
   ·by_cases c4 : x.2.1=y.2.1
    ·rw [eqI_f c3,eqI_t c4,neI_t c3,neI_t (Ne.symm c3),neI_f c4,neI_f c4.symm]
     cases o1 <;> cases o3
     ·exact ⟨false,rfl,rfl⟩
     ·exact ⟨true,rfl,rfl⟩
     ·exact ⟨true,rfl,rfl⟩
     ·exact ⟨true,rfl,rfl⟩
    ·rw [eqI_f c3,eqI_f c4,neI_t c3,neI_t c4]
     cases mm
     ·exact ⟨false,rfl,rfl⟩
     ·exact ⟨true,rfl,rfl⟩
end Go.Vm
