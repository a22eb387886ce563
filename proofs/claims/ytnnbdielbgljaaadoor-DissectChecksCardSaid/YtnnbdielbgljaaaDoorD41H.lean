/-
 Contracts of the functions that the law reaches.
-/
import Derived.Test.YtnnbdielbgljaaaDoorD41
import Derived.Test.YtnnbdielbgljaaaDoorVmD
import Derived.Test.YtnnbdielbgljaaaDoorS41
set_option linter.unusedVariables false
set_option linter.unusedSimpArgs false
namespace Go.Vm
open Go.Proofs
noncomputable section
set_option maxRecDepth 100000
theorem au : SeatOK Tryd.prog tab eqs:=⟨by kernel_rfl,by kernel_rfl,by kernel_rfl⟩
def Or : List (LoopPf sB sF (aa Tryd.f23)):=[⟨4,zI,oU,rfl,Mx⟩]
theorem DC : ap sB sF (ag (aa Tryd.f23)):=ai Or (by kernel_rfl) (by kernel_rfl)
theorem HO : ∀ f site c,(sB).con f site=some c→c.Holds Tryd.prog (sB).glob f:=by
 intro f site c h; cases h
theorem Fx : Con.Holds Tryd.prog glob 23 Zar_c :=
 ah (C:=sB) (A:=sF) (outs:=[(.tmp 2,true,.bool)]) au HO (by kernel_rfl) (by kernel_rfl) DC (by kernel_rfl) (by kernel_rfl) K4
def Om : List (LoopPf pn qD (aa Tryd.f8)):=[⟨5,AH,n7,rfl,ME⟩]
theorem Fl : ap pn qD (ag (aa Tryd.f8)):=ai Om (by kernel_rfl) (by kernel_rfl)
theorem GY : ∀ f site c,(pn).con f site=some c→c.Holds Tryd.prog (pn).glob f:=by
 intro f site c h
 unfold pn at h
 dsimp only at h
 split at h
 ·cases h; exact Fx
 ·cases h
theorem DJ : Con.Holds Tryd.prog glob 8 Zat_c :=
 ah (C:=pn) (A:=qD) (outs:=[(.tmp 2,true,.bool)]) au GY (by kernel_rfl) (by kernel_rfl) Fl (by kernel_rfl) (by kernel_rfl) Nu
def PU : List (LoopPf uz vk (aa Tryd.f81)):=[]
theorem Da : ap uz vk (ag (aa Tryd.f81)):=ai PU (by kernel_rfl) (by kernel_rfl)
theorem FJ : ∀ f site c,(uz).con f site=some c→c.Holds Tryd.prog (uz).glob f:=by
 intro f site c h; cases h
theorem kC : Con.Holds Tryd.prog glob 81 Zbl_c :=
 ah (C:=uz) (A:=vk) (outs:=[(.tmp 4,true,I)]) au FJ (by kernel_rfl) (by kernel_rfl) Da (by kernel_rfl) (by kernel_rfl) M8
def Py : List (LoopPf lk lL (aa Tryd.f64)):=[⟨4,BA,np,rfl,Mk⟩,⟨12,wJ,kv,rfl,Kr⟩,⟨15,vM,kA,rfl,Kn⟩]
theorem EU : ap lk lL (ag (aa Tryd.f64)):=ai Py (by kernel_rfl) (by kernel_rfl)
theorem Hr : ∀ f site c,(lk).con f site=some c→c.Holds Tryd.prog (lk).glob f:=by
 intro f site c h
 unfold lk at h
 dsimp only at h
 split at h
 ·cases h; exact kC
 ·cases h
theorem eV : Con.Holds Tryd.prog glob 64 Zaz_c :=
 ah (C:=lk) (A:=lL) (outs:=[(.tmp 2,true,.bool)]) au Hr (by kernel_rfl) (by kernel_rfl) EU (by kernel_rfl) (by kernel_rfl) NV
def Pk : List (LoopPf sN wL (aa Tryd.f59)):=[]
theorem ES : ap sN wL (ag (aa Tryd.f59)):=ai Pk (by kernel_rfl) (by kernel_rfl)
theorem Gt : ∀ f site c,(sN).con f site=some c→c.Holds Tryd.prog (sN).glob f:=by
 intro f site c h
 unfold sN at h
 dsimp only at h
 split at h
 ·cases h; exact eV
 ·cases h; exact kC
 ·cases h
theorem n6 : Con.Holds Tryd.prog glob 59 Zbg_c :=
 ah (C:=sN) (A:=wL) (outs:=[(.tmp 4,true,I)]) au Gt (by kernel_rfl) (by kernel_rfl) ES (by kernel_rfl) (by kernel_rfl) LX
def Ox : List (LoopPf nc pd (aa Tryd.f72)):=[⟨6,Ay,nQ,rfl,NP⟩,⟨11,wH,kH,rfl,JL⟩]
theorem Ed : ap nc pd (ag (aa Tryd.f72)):=ai Ox (by kernel_rfl) (by kernel_rfl)
theorem If : ∀ f site c,(nc).con f site=some c→c.Holds Tryd.prog (nc).glob f:=by
 intro f site c h
 unfold nc at h
 dsimp only at h
 split at h
 ·cases h; exact n6
 ·cases h
theorem ER : Con.Holds Tryd.prog glob 72 Zas_c :=
 ah (C:=nc) (A:=pd) (outs:=[(.tmp 2,true,.bool)]) au If (by kernel_rfl) (by kernel_rfl) Ed (by kernel_rfl) (by kernel_rfl) MU
def N7 : List (LoopPf pq ox (aa Tryd.f65)):=[⟨3,zX,n8,rfl,LK⟩,⟨6,zO,nL,rfl,M5⟩]
theorem Dn : ap pq ox (ag (aa Tryd.f65)):=ai N7 (by kernel_rfl) (by kernel_rfl)
theorem I3 : ∀ f site c,(pq).con f site=some c→c.Holds Tryd.prog (pq).glob f:=by
 intro f site c h; cases h
theorem Fc : Con.Holds Tryd.prog glob 65 Zaq_c :=
 ah (C:=pq) (A:=ox) (outs:=[(.tmp 2,true,(.slice I))]) au I3 (by kernel_rfl) (by kernel_rfl) Dn (by kernel_rfl) (by kernel_rfl) Mm
def Pr : List (LoopPf mm nA (aa Tryd.f39)):=[⟨7,AN,oA,rfl,NX⟩,⟨11,wK,kG,rfl,Jx⟩]
theorem Dl : ap mm nA (ag (aa Tryd.f39)):=ai Pr (by kernel_rfl) (by kernel_rfl)
theorem Hs : ∀ f site c,(mm).con f site=some c→c.Holds Tryd.prog (mm).glob f:=by
 intro f site c h
 unfold mm at h
 dsimp only at h
 split at h
 ·cases h; exact eV
 ·cases h; exact Fc
 ·cases h
theorem iP : Con.Holds Tryd.prog glob 39 Zbd_c :=
 ah (C:=mm) (A:=nA) (outs:=[(.tmp 2,true,(.slice (.slice I)))]) au Hs (by kernel_rfl) (by kernel_rfl) Dl (by kernel_rfl) (by kernel_rfl) MF
def Qq : List (LoopPf tm ry (aa Tryd.f86)):=[⟨4,GA,iA,rfl,Pa⟩,⟨10,AV,i9,rfl,LV⟩,⟨13,Bb,oz,rfl,Np⟩]
theorem IR : ap tm ry (ag (aa Tryd.f86)):=ai Qq (by kernel_rfl) (by kernel_rfl)
theorem J3 : ∀ f site c,(tm).con f site=some c→c.Holds Tryd.prog (tm).glob f:=by
 intro f site c h
 unfold tm at h
 dsimp only at h
 split at h
 ·cases h; exact kC
 ·cases h
theorem Im : Con.Holds Tryd.prog glob 86 Zk_c :=
 ah (C:=tm) (A:=ry) (outs:=[(.tmp 2,true,I)]) au J3 (by kernel_rfl) (by kernel_rfl) IR (by kernel_rfl) (by kernel_rfl) Pb
def Oh : List (LoopPf pm qE (aa Tryd.f73)):=[⟨5,BG,jd,rfl,Ns⟩]
theorem D2 : ap pm qE (ag (aa Tryd.f73)):=ai Oh (by kernel_rfl) (by kernel_rfl)
theorem GQ : ∀ f site c,(pm).con f site=some c→c.Holds Tryd.prog (pm).glob f:=by
 intro f site c h
 unfold pm at h
 dsimp only at h
 split at h
 ·cases h; exact iP
 ·cases h; exact eV
 ·cases h; exact Im
 ·cases h
theorem Df : Con.Holds Tryd.prog glob 73 Zba_c :=
 ah (C:=pm) (A:=qE) (outs:=[(.tmp 2,true,I)]) au GQ (by kernel_rfl) (by kernel_rfl) D2 (by kernel_rfl) (by kernel_rfl) LL
def Pj : List (LoopPf pW nE (aa Tryd.f74)):=[⟨2,At,pc,rfl,M6⟩,⟨6,zp,oK,rfl,Lv⟩]
theorem EI : ap pW nE (ag (aa Tryd.f74)):=ai Pj (by kernel_rfl) (by kernel_rfl)
theorem GO : ∀ f site c,(pW).con f site=some c→c.Holds Tryd.prog (pW).glob f:=by
 intro f site c h; cases h
theorem Du : Con.Holds Tryd.prog glob 74 Zbm_c :=
 ah (C:=pW) (A:=nE) (outs:=[(.tmp 2,true,.bool)]) au GO (by kernel_rfl) (by kernel_rfl) EI (by kernel_rfl) (by kernel_rfl) K9
def Pe : List (LoopPf uN vl (aa Tryd.f87)):=[]
theorem Fv : ap uN vl (ag (aa Tryd.f87)):=ai Pe (by kernel_rfl) (by kernel_rfl)
theorem I5 : ∀ f site c,(uN).con f site=some c→c.Holds Tryd.prog (uN).glob f:=by
 intro f site c h; cases h
theorem uO : Con.Holds Tryd.prog glob 87 Zbi_c :=
 ah (C:=uN) (A:=vl) (outs:=[(.tmp 2,true,(.int .u8)),(.tmp 3,true,.bool)]) au I5 (by kernel_rfl) (by kernel_rfl) Fv (by kernel_rfl) (by kernel_rfl) My
def N4 : List (LoopPf pI qM (aa Tryd.f75)):=[⟨4,BV,lO,rfl,Ma⟩]
theorem EB : ap pI qM (ag (aa Tryd.f75)):=ai N4 (by kernel_rfl) (by kernel_rfl)
theorem FI : ∀ f site c,(pI).con f site=some c→c.Holds Tryd.prog (pI).glob f:=by
 intro f site c h
 unfold pI at h
 dsimp only at h
 split at h
 ·cases h; exact uO
 ·cases h
theorem Db : Con.Holds Tryd.prog glob 75 Zbw_c :=
 ah (C:=pI) (A:=qM) (outs:=[(.tmp 2,true,.bool)]) au FI (by kernel_rfl) (by kernel_rfl) EB (by kernel_rfl) (by kernel_rfl) NB
def Qb : List (LoopPf Aq xQ (aa Tryd.f88)):=[⟨1,Jr,Ix,rfl,PX⟩]
theorem Jh : ap Aq xQ (ag (aa Tryd.f88)):=ai Qb (by kernel_rfl) (by kernel_rfl)
theorem J9 : ∀ f site c,(Aq).con f site=some c→c.Holds Tryd.prog (Aq).glob f:=by
 intro f site c h; cases h
theorem Ic : Con.Holds Tryd.prog glob 88 Zl_c :=
 ah (C:=Aq) (A:=xQ) (outs:=[]) au J9 (by kernel_rfl) (by kernel_rfl) Jh (by kernel_rfl) (by kernel_rfl) Pz
def O6 : List (LoopPf pQ rk (aa Tryd.f76)):=[⟨4,AW,mc,rfl,MZ⟩]
theorem Ds : ap pQ rk (ag (aa Tryd.f76)):=ai O6 (by kernel_rfl) (by kernel_rfl)
theorem GE : ∀ f site c,(pQ).con f site=some c→c.Holds Tryd.prog (pQ).glob f:=by
 intro f site c h
 unfold pQ at h
 dsimp only at h
 split at h
 ·cases h; exact uO
 ·cases h; exact Ic
 ·cases h
theorem Fi : Con.Holds Tryd.prog glob 76 Zbj_c :=
 ah (C:=pQ) (A:=rk) (outs:=[(.tmp 2,true,.str)]) au GE (by kernel_rfl) (by kernel_rfl) Ds (by kernel_rfl) (by kernel_rfl) NJ
def PW : List (LoopPf qK rV (aa Tryd.f66)):=[⟨2,AR,g9,rfl,LM⟩]
theorem DT : ap qK rV (ag (aa Tryd.f66)):=ai PW (by kernel_rfl) (by kernel_rfl)
theorem GP : ∀ f site c,(qK).con f site=some c→c.Holds Tryd.prog (qK).glob f:=by
 intro f site c h; cases h
theorem iL : Con.Holds Tryd.prog glob 66 Zai_c :=
 ah (C:=qK) (A:=rV) (outs:=[(.tmp 4,true,I)]) au GP (by kernel_rfl) (by kernel_rfl) DT (by kernel_rfl) (by kernel_rfl) LE
def Qa : List (LoopPf BN CA (aa Tryd.f40)):=[]
theorem GZ : ap BN CA (ag (aa Tryd.f40)):=ai Qa (by kernel_rfl) (by kernel_rfl)
theorem Kw : ∀ f site c,(BN).con f site=some c→c.Holds Tryd.prog (BN).glob f:=by
 intro f site c h
 unfold BN at h
 dsimp only at h
 split at h
 ·cases h; exact iL
 ·cases h
theorem sJ : Con.Holds Tryd.prog glob 40 Zh_c :=
 ah (C:=BN) (A:=CA) (outs:=[(.tmp 4,true,.bool)]) au Kw (by kernel_rfl) (by kernel_rfl) GZ (by kernel_rfl) (by kernel_rfl) PY
def O7 : List (LoopPf sq sS (aa Tryd.f89)):=[⟨3,zj,ol,rfl,LP⟩]
theorem Fo : ap sq sS (ag (aa Tryd.f89)):=ai O7 (by kernel_rfl) (by kernel_rfl)
theorem Iy : ∀ f site c,(sq).con f site=some c→c.Holds Tryd.prog (sq).glob f:=by
 intro f site c h; cases h
theorem D1 : Con.Holds Tryd.prog glob 89 Zbv_c :=
 ah (C:=sq) (A:=sS) (outs:=[(.tmp 4,true,I)]) au Iy (by kernel_rfl) (by kernel_rfl) Fo (by kernel_rfl) (by kernel_rfl) MI
def O2 : List (LoopPf pR qU (aa Tryd.f77)):=[⟨3,zR,oV,rfl,Lp⟩]
theorem Dt : ap pR qU (ag (aa Tryd.f77)):=ai O2 (by kernel_rfl) (by kernel_rfl)
theorem Id : ∀ f site c,(pR).con f site=some c→c.Holds Tryd.prog (pR).glob f:=by
 intro f site c h
 unfold pR at h
 dsimp only at h
 split at h
 ·cases h; exact D1
 ·cases h
theorem Ew : Con.Holds Tryd.prog glob 77 Zbu_c :=
 ah (C:=pR) (A:=qU) (outs:=[(.tmp 4,true,I)]) au Id (by kernel_rfl) (by kernel_rfl) Dt (by kernel_rfl) (by kernel_rfl) Lc
def OM : List (LoopPf mJ oL (aa Tryd.f50)):=[⟨8,Az,oh,rfl,Nn⟩,⟨13,xf,kn,rfl,JZ⟩]
theorem DU : ap mJ oL (ag (aa Tryd.f50)):=ai OM (by kernel_rfl) (by kernel_rfl)
theorem HY : ∀ f site c,(mJ).con f site=some c→c.Holds Tryd.prog (mJ).glob f:=by
 intro f site c h
 unfold mJ at h
 dsimp only at h
 split at h
 ·cases h; exact iP
 ·cases h; exact sJ
 ·cases h; exact eV
 ·cases h; exact ER
 ·cases h; exact Df
 ·cases h; exact Du
 ·cases h; exact Db
 ·cases h; exact Fi
 ·cases h; exact Ew
 ·cases h
theorem uD : Con.Holds Tryd.prog glob 50 Zbt_c :=
 ah (C:=mJ) (A:=oL) (outs:=[(.tmp 2,true,.bool)]) au HY (by kernel_rfl) (by kernel_rfl) DU (by kernel_rfl) (by kernel_rfl) NG
def OE : List (LoopPf rr wx (aa Tryd.f25)):=[]
theorem DR : ap rr wx (ag (aa Tryd.f25)):=ai OE (by kernel_rfl) (by kernel_rfl)
theorem G9 : ∀ f site c,(rr).con f site=some c→c.Holds Tryd.prog (rr).glob f:=by
 intro f site c h
 unfold rr at h
 dsimp only at h
 split at h
 ·cases h; exact uD
 ·cases h
theorem oY : Con.Holds Tryd.prog glob 25 Zbp_c :=
 ah (C:=rr) (A:=wx) (outs:=[(.tmp 2,true,I)]) au G9 (by kernel_rfl) (by kernel_rfl) DR (by kernel_rfl) (by kernel_rfl) MD
def Po : List (LoopPf pC nv (aa Tryd.f26)):=[⟨3,zq,AT,rfl,Li⟩,⟨8,zE,zv,rfl,LY⟩]
theorem FE : ap pC nv (ag (aa Tryd.f26)):=ai Po (by kernel_rfl) (by kernel_rfl)
theorem Jg : ∀ f site c,(pC).con f site=some c→c.Holds Tryd.prog (pC).glob f:=by
 intro f site c h; cases h
theorem DF : Con.Holds Tryd.prog glob 26 Zbb_c :=
 ah (C:=pC) (A:=nv) (outs:=[(.tmp 6,true,(.slice I))]) au Jg (by kernel_rfl) (by kernel_rfl) FE (by kernel_rfl) (by kernel_rfl) Lu
def Qr : List (LoopPf ED CH (aa Tryd.f27)):=[]
theorem Hx : ap ED CH (ag (aa Tryd.f27)):=ai Qr (by kernel_rfl) (by kernel_rfl)
theorem KQ : ∀ f site c,(ED).con f site=some c→c.Holds Tryd.prog (ED).glob f:=by
 intro f site c h; cases h
theorem Ii : Con.Holds Tryd.prog glob 27 Zf_c :=
 ah (C:=ED) (A:=CH) (outs:=[(.tmp 3,true,I)]) au KQ (by kernel_rfl) (by kernel_rfl) Hx (by kernel_rfl) (by kernel_rfl) Ps
def Qf : List (LoopPf rO pS (aa Tryd.f10)):=[⟨7,Ja,He,rfl,Pm⟩,⟨12,zz,Br,rfl,Nk⟩,⟨27,Ak,Au,rfl,Ll⟩,⟨31,Bk,zQ,rfl,Nq⟩]
theorem IP : ap rO pS (ag (aa Tryd.f10)):=ai Qf (by kernel_rfl) (by kernel_rfl)
theorem JX : ∀ f site c,(rO).con f site=some c→c.Holds Tryd.prog (rO).glob f:=by
 intro f site c h
 unfold rO at h
 dsimp only at h
 split at h
 ·cases h; exact oY
 ·cases h; exact DF
 ·cases h; exact Ii
 ·cases h
theorem Jb : Con.Holds Tryd.prog glob 10 Zq_c :=
 ah (C:=rO) (A:=pS) (outs:=[(.cell 2 29,true,(.prod (.prod I (.prod (.slice (.prod I (.prod I .unit))) (.prod (.slice (.slice I)) .unit))) (.prod (.slice I) (.prod (.slice .str) (.prod I .unit))))),(.tmp 3,true,(.slice (.slice I))),(.tmp 4,true,I)]) au JX (by kernel_rfl) (by kernel_rfl) IP (by kernel_rfl) (by kernel_rfl) OU
def NY : List (LoopPf pK rJ (aa Tryd.f36)):=[⟨5,BU,lw,rfl,Lj⟩]
theorem Fk : ap pK rJ (ag (aa Tryd.f36)):=ai NY (by kernel_rfl) (by kernel_rfl)
theorem Gy : ∀ f site c,(pK).con f site=some c→c.Holds Tryd.prog (pK).glob f:=by
 intro f site c h
 unfold pK at h
 dsimp only at h
 split at h
 ·cases h; exact uD
 ·cases h
theorem ur : Con.Holds Tryd.prog glob 36 Zbq_c :=
 ah (C:=pK) (A:=rJ) (outs:=[(.tmp 2,true,I)]) au Gy (by kernel_rfl) (by kernel_rfl) Fk (by kernel_rfl) (by kernel_rfl) Mi
def PJ : List (LoopPf u9 xg (aa Tryd.f37)):=[]
theorem DW : ap u9 xg (ag (aa Tryd.f37)):=ai PJ (by kernel_rfl) (by kernel_rfl)
theorem FP : ∀ f site c,(u9).con f site=some c→c.Holds Tryd.prog (u9).glob f:=by
 intro f site c h; cases h
theorem Dm : Con.Holds Tryd.prog glob 37 Zax_c :=
 ah (C:=u9) (A:=xg) (outs:=[(.cell 0 29,true,(.prod (.prod I (.prod (.slice (.prod I (.prod I .unit))) (.prod (.slice (.slice I)) .unit))) (.prod (.slice I) (.prod (.slice .str) (.prod I .unit)))))]) au FP (by kernel_rfl) (by kernel_rfl) DW (by kernel_rfl) (by kernel_rfl) Mu
def N6 : List (LoopPf qY wl (aa Tryd.f58)):=[]
theorem EM : ap qY wl (ag (aa Tryd.f58)):=ai N6 (by kernel_rfl) (by kernel_rfl)
theorem HG : ∀ f site c,(qY).con f site=some c→c.Holds Tryd.prog (qY).glob f:=by
 intro f site c h
 unfold qY at h
 dsimp only at h
 split at h
 ·cases h; exact eV
 ·cases h; exact iL
 ·cases h; exact kC
 ·cases h
theorem uh : Con.Holds Tryd.prog glob 58 Zbf_c :=
 ah (C:=qY) (A:=wl) (outs:=[(.tmp 4,true,I)]) au HG (by kernel_rfl) (by kernel_rfl) EM (by kernel_rfl) (by kernel_rfl) ML
def OR : List (LoopPf pA sm (aa Tryd.f57)):=[⟨2,BL,jM,rfl,Mh⟩]
theorem Di : ap pA sm (ag (aa Tryd.f57)):=ai OR (by kernel_rfl) (by kernel_rfl)
theorem Hf : ∀ f site c,(pA).con f site=some c→c.Holds Tryd.prog (pA).glob f:=by
 intro f site c h
 unfold pA at h
 dsimp only at h
 split at h
 ·cases h; exact uh
 ·cases h
theorem Do : Con.Holds Tryd.prog glob 57 Zam_c :=
 ah (C:=pA) (A:=sm) (outs:=[(.tmp 6,true,.bool)]) au Hf (by kernel_rfl) (by kernel_rfl) Di (by kernel_rfl) (by kernel_rfl) Nj
def Oj : List (LoopPf ul wT (aa Tryd.f60)):=[]
theorem DZ : ap ul wT (ag (aa Tryd.f60)):=ai Oj (by kernel_rfl) (by kernel_rfl)
theorem IB : ∀ f site c,(ul).con f site=some c→c.Holds Tryd.prog (ul).glob f:=by
 intro f site c h; cases h
theorem uQ : Con.Holds Tryd.prog glob 60 Zap_c :=
 ah (C:=ul) (A:=wT) (outs:=[(.tmp 2,true,(.slice (.prod I (.prod I .unit))))]) au IB (by kernel_rfl) (by kernel_rfl) DZ (by kernel_rfl) (by kernel_rfl) Lm
def Qd : List (LoopPf Fe CR (aa Tryd.f61)):=[]
theorem IG : ap Fe CR (ag (aa Tryd.f61)):=ai Qd (by kernel_rfl) (by kernel_rfl)
theorem JE : ∀ f site c,(Fe).con f site=some c→c.Holds Tryd.prog (Fe).glob f:=by
 intro f site c h; cases h
theorem HV : Con.Holds Tryd.prog glob 61 Ze_c :=
 ah (C:=Fe) (A:=CR) (outs:=[(.tmp 2,true,(.slice (.slice I)))]) au JE (by kernel_rfl) (by kernel_rfl) IG (by kernel_rfl) (by kernel_rfl) PP
def PO : List (LoopPf tT wg (aa Tryd.f62)):=[]
theorem EF : ap tT wg (ag (aa Tryd.f62)):=ai PO (by kernel_rfl) (by kernel_rfl)
theorem Hj : ∀ f site c,(tT).con f site=some c→c.Holds Tryd.prog (tT).glob f:=by
 intro f site c h; cases h
theorem ku : Con.Holds Tryd.prog glob 62 Zag_c :=
 ah (C:=tT) (A:=wg) (outs:=[(.tmp 2,true,(.slice I))]) au Hj (by kernel_rfl) (by kernel_rfl) EF (by kernel_rfl) (by kernel_rfl) LG
theorem xX : Con.Holds Tryd.prog glob 82 Zr_c:=Dx
def OH : List (LoopPf qC vp (aa Tryd.f63)):=[]
theorem DH : ap qC vp (ag (aa Tryd.f63)):=ai OH (by kernel_rfl) (by kernel_rfl)
theorem HW : ∀ f site c,(qC).con f site=some c→c.Holds Tryd.prog (qC).glob f:=by
 intro f site c h
 unfold qC at h
 dsimp only at h
 split at h
 ·cases h; exact ku
 ·cases h; exact iL
 ·cases h; exact xX
 ·cases h
theorem EZ : Con.Holds Tryd.prog glob 63 Zbs_c :=
 ah (C:=qC) (A:=vp) (outs:=[(.tmp 6,true,(.slice I))]) au HW (by kernel_rfl) (by kernel_rfl) DH (by kernel_rfl) (by kernel_rfl) Nx
def PN : List (LoopPf pE sk (aa Tryd.f38)):=[⟨3,AL,rA,rfl,NI⟩]
theorem DY : ap pE sk (ag (aa Tryd.f38)):=ai PN (by kernel_rfl) (by kernel_rfl)
theorem Jt : ∀ f site c,(pE).con f site=some c→c.Holds Tryd.prog (pE).glob f:=by
 intro f site c h
 unfold pE at h
 dsimp only at h
 split at h
 ·cases h; exact Do
 ·cases h; exact uh
 ·cases h; exact n6
 ·cases h; exact uQ
 ·cases h; exact HV
 ·cases h; exact ku
 ·cases h; exact EZ
 ·cases h
theorem EY : Con.Holds Tryd.prog glob 38 Zav_c :=
 ah (C:=pE) (A:=sk) (outs:=[(.cell 2 29,true,(.prod (.prod I (.prod (.slice (.prod I (.prod I .unit))) (.prod (.slice (.slice I)) .unit))) (.prod (.slice I) (.prod (.slice .str) (.prod I .unit)))))]) au Jt (by kernel_rfl) (by kernel_rfl) DY (by kernel_rfl) (by kernel_rfl) Mt
def PZ : List (LoopPf uC wj (aa Tryd.f68)):=[]
theorem Fm : ap uC wj (ag (aa Tryd.f68)):=ai PZ (by kernel_rfl) (by kernel_rfl)
theorem Jc : ∀ f site c,(uC).con f site=some c→c.Holds Tryd.prog (uC).glob f:=by
 intro f site c h; cases h
theorem Fs : Con.Holds Tryd.prog glob 68 Zao_c :=
 ah (C:=uC) (A:=wj) (outs:=[(.tmp 3,true,.bool)]) au Jc (by kernel_rfl) (by kernel_rfl) Fm (by kernel_rfl) (by kernel_rfl) LD
def Qe : List (LoopPf yj xR (aa Tryd.f67)):=[⟨2,Hb,pO,rfl,On⟩]
theorem IQ : ap yj xR (ag (aa Tryd.f67)):=ai Qe (by kernel_rfl) (by kernel_rfl)
theorem KG : ∀ f site c,(yj).con f site=some c→c.Holds Tryd.prog (yj).glob f:=by
 intro f site c h
 unfold yj at h
 dsimp only at h
 split at h
 ·cases h; exact Fs
 ·cases h
theorem GD : Con.Holds Tryd.prog glob 67 Za_c :=
 ah (C:=yj) (A:=xR) (outs:=[(.tmp 4,true,I)]) au KG (by kernel_rfl) (by kernel_rfl) IQ (by kernel_rfl) (by kernel_rfl) Ot
def PA : List (LoopPf rY wM (aa Tryd.f41)):=[]
theorem FB : ap rY wM (ag (aa Tryd.f41)):=ai PA (by kernel_rfl) (by kernel_rfl)
theorem Jo : ∀ f site c,(rY).con f site=some c→c.Holds Tryd.prog (rY).glob f:=by
 intro f site c h
 unfold rY at h
 dsimp only at h
 split at h
 ·cases h; exact GD
 ·cases h
theorem DN : Con.Holds Tryd.prog glob 41 Zbe_c :=
 ah (C:=rY) (A:=wM) (outs:=[(.tmp 4,true,I)]) au Jo (by kernel_rfl) (by kernel_rfl) FB (by kernel_rfl) (by kernel_rfl) Ls
def Ou : List (LoopPf pg sZ (aa Tryd.f83)):=[⟨3,AK,nT,rfl,MS⟩]
theorem Fd : ap pg sZ (ag (aa Tryd.f83)):=ai Ou (by kernel_rfl) (by kernel_rfl)
theorem I4 : ∀ f site c,(pg).con f site=some c→c.Holds Tryd.prog (pg).glob f:=by
 intro f site c h
 unfold pg at h
 dsimp only at h
 split at h
 ·cases h; exact uQ
 ·cases h; exact ku
 ·cases h
theorem uJ : Con.Holds Tryd.prog glob 83 Zbk_c :=
 ah (C:=pg) (A:=sZ) (outs:=[(.cell 2 25,true,(.prod I (.prod (.slice (.prod I (.prod I .unit))) (.prod (.slice (.slice I)) .unit))))]) au I4 (by kernel_rfl) (by kernel_rfl) Fd (by kernel_rfl) (by kernel_rfl) LC
def P1 : List (LoopPf sM vJ (aa Tryd.f69)):=[]
theorem Ef : ap sM vJ (ag (aa Tryd.f69)):=ai P1 (by kernel_rfl) (by kernel_rfl)
theorem Jq : ∀ f site c,(sM).con f site=some c→c.Holds Tryd.prog (sM).glob f:=by
 intro f site c h
 unfold sM at h
 dsimp only at h
 split at h
 ·cases h; exact eV
 ·cases h; exact iL
 ·cases h; exact uJ
 ·cases h
theorem Es : Con.Holds Tryd.prog glob 69 Zbn_c :=
 ah (C:=sM) (A:=vJ) (outs:=[(.cell 4 25,true,(.prod I (.prod (.slice (.prod I (.prod I .unit))) (.prod (.slice (.slice I)) .unit)))),(.tmp 5,true,I)]) au Jq (by kernel_rfl) (by kernel_rfl) Ef (by kernel_rfl) (by kernel_rfl) M9
def OX : List (LoopPf uS vZ (aa Tryd.f70)):=[]
theorem Dr : ap uS vZ (ag (aa Tryd.f70)):=ai OX (by kernel_rfl) (by kernel_rfl)
theorem Hz : ∀ f site c,(uS).con f site=some c→c.Holds Tryd.prog (uS).glob f:=by
 intro f site c h; cases h
theorem D0 : Con.Holds Tryd.prog glob 70 Zan_c :=
 ah (C:=uS) (A:=vZ) (outs:=[(.tmp 4,true,I)]) au Hz (by kernel_rfl) (by kernel_rfl) Dr (by kernel_rfl) (by kernel_rfl) LJ
def O0 : List (LoopPf mB oD (aa Tryd.f84)):=[⟨3,zn,nO,rfl,Lf⟩,⟨6,Aj,oj,rfl,Lx⟩]
theorem Fj : ap mB oD (ag (aa Tryd.f84)):=ai O0 (by kernel_rfl) (by kernel_rfl)
theorem Hh : ∀ f site c,(mB).con f site=some c→c.Holds Tryd.prog (mB).glob f:=by
 intro f site c h
 unfold mB at h
 dsimp only at h
 split at h
 ·cases h; exact iP
 ·cases h
theorem Ep : Con.Holds Tryd.prog glob 84 Zbo_c :=
 ah (C:=mB) (A:=oD) (outs:=[(.tmp 2,true,(.slice I))]) au Hh (by kernel_rfl) (by kernel_rfl) Fj (by kernel_rfl) (by kernel_rfl) Ms
def PT : List (LoopPf sx vH (aa Tryd.f85)):=[]
theorem Ej : ap sx vH (ag (aa Tryd.f85)):=ai PT (by kernel_rfl) (by kernel_rfl)
theorem HT : ∀ f site c,(sx).con f site=some c→c.Holds Tryd.prog (sx).glob f:=by
 intro f site c h
 unfold sx at h
 dsimp only at h
 split at h
 ·cases h; exact iL
 ·cases h; exact xX
 ·cases h
theorem Ea : Con.Holds Tryd.prog glob 85 Zbh_c :=
 ah (C:=sx) (A:=vH) (outs:=[(.tmp 6,true,(.slice I))]) au HT (by kernel_rfl) (by kernel_rfl) Ej (by kernel_rfl) (by kernel_rfl) NL
def O3 : List (LoopPf qS vi (aa Tryd.f71)):=[]
theorem Eb : ap qS vi (ag (aa Tryd.f71)):=ai O3 (by kernel_rfl) (by kernel_rfl)
theorem IT : ∀ f site c,(qS).con f site=some c→c.Holds Tryd.prog (qS).glob f:=by
 intro f site c h
 unfold qS at h
 dsimp only at h
 split at h
 ·cases h; exact n6
 ·cases h; exact eV
 ·cases h; exact uJ
 ·cases h; exact Ep
 ·cases h; exact Ea
 ·cases h
theorem Ei : Con.Holds Tryd.prog glob 71 Zbr_c :=
 ah (C:=qS) (A:=vi) (outs:=[(.cell 6 25,false,(.prod I (.prod (.slice (.prod I (.prod I .unit))) (.prod (.slice (.slice I)) .unit)))),(.tmp 7,true,I)]) au IT (by kernel_rfl) (by kernel_rfl) Eb (by kernel_rfl) (by kernel_rfl) K6
def PK : List (LoopPf pj sL (aa Tryd.f42)):=[⟨3,Ar,sY,rfl,K0⟩]
theorem EV : ap pj sL (ag (aa Tryd.f42)):=ai PK (by kernel_rfl) (by kernel_rfl)
theorem Iv : ∀ f site c,(pj).con f site=some c→c.Holds Tryd.prog (pj).glob f:=by
 intro f site c h
 unfold pj at h
 dsimp only at h
 split at h
 ·cases h; exact ku
 ·cases h; exact Es
 ·cases h; exact D0
 ·cases h; exact Ei
 ·cases h
theorem Eq : Con.Holds Tryd.prog glob 42 Zbc_c :=
 ah (C:=pj) (A:=sL) (outs:=[(.cell 6 29,false,(.prod (.prod I (.prod (.slice (.prod I (.prod I .unit))) (.prod (.slice (.slice I)) .unit))) (.prod (.slice I) (.prod (.slice .str) (.prod I .unit))))),(.tmp 7,true,I)]) au Iv (by kernel_rfl) (by kernel_rfl) EV (by kernel_rfl) (by kernel_rfl) Mf
def OW : List (LoopPf nk oF (aa Tryd.f15)):=[⟨7,Af,oE,rfl,NW⟩,⟨10,wh,gY,rfl,KB⟩]
theorem DG : ap nk oF (ag (aa Tryd.f15)):=ai OW (by kernel_rfl) (by kernel_rfl)
theorem GW : ∀ f site c,(nk).con f site=some c→c.Holds Tryd.prog (nk).glob f:=by
 intro f site c h
 unfold nk at h
 dsimp only at h
 split at h
 ·cases h; exact oY
 ·cases h; exact ur
 ·cases h; exact Dm
 ·cases h; exact EY
 ·cases h; exact iP
 ·cases h; exact sJ
 ·cases h; exact DN
 ·cases h; exact Eq
 ·cases h
theorem tD : Con.Holds Tryd.prog glob 15 Zay_c :=
 ah (C:=nk) (A:=oF) (outs:=[(.cell 2 29,false,(.prod (.prod I (.prod (.slice (.prod I (.prod I .unit))) (.prod (.slice (.slice I)) .unit))) (.prod (.slice I) (.prod (.slice .str) (.prod I .unit))))),(.tmp 3,true,I)]) au GW (by kernel_rfl) (by kernel_rfl) DG (by kernel_rfl) (by kernel_rfl) Nt
def QA : List (LoopPf ww ut (aa Tryd.f16)):=[⟨4,GB,uj,rfl,PF⟩,⟨11,Ad,nB,rfl,MV⟩]
theorem GI : ap ww ut (ag (aa Tryd.f16)):=ai QA (by kernel_rfl) (by kernel_rfl)
theorem KC : ∀ f site c,(ww).con f site=some c→c.Holds Tryd.prog (ww).glob f:=by
 intro f site c h
 unfold ww at h
 dsimp only at h
 split at h
 ·cases h; exact oY
 ·cases h; exact ur
 ·cases h; exact iP
 ·cases h; exact sJ
 ·cases h
theorem yi : Con.Holds Tryd.prog glob 16 Zi_c :=
 ah (C:=ww) (A:=ut) (outs:=[(.tmp 2,true,.bool)]) au KC (by kernel_rfl) (by kernel_rfl) GI (by kernel_rfl) (by kernel_rfl) Pi
def P9 : List (LoopPf Fu CW (aa Tryd.f24)):=[]
theorem GK : ap Fu CW (ag (aa Tryd.f24)):=ai P9 (by kernel_rfl) (by kernel_rfl)
theorem KP : ∀ f site c,(Fu).con f site=some c→c.Holds Tryd.prog (Fu).glob f:=by
 intro f site c h; cases h
theorem Hd : Con.Holds Tryd.prog glob 24 Zo_c :=
 ah (C:=Fu) (A:=CW) (outs:=[(.cell 0 29,true,(.prod (.prod I (.prod (.slice (.prod I (.prod I .unit))) (.prod (.slice (.slice I)) .unit))) (.prod (.slice I) (.prod (.slice .str) (.prod I .unit)))))]) au KP (by kernel_rfl) (by kernel_rfl) GK (by kernel_rfl) (by kernel_rfl) OY
def P6 : List (LoopPf BO Cn (aa Tryd.f9)):=[]
theorem ID : ap BO Cn (ag (aa Tryd.f9)):=ai P6 (by kernel_rfl) (by kernel_rfl)
theorem JF : ∀ f site c,(BO).con f site=some c→c.Holds Tryd.prog (BO).glob f:=by
 intro f site c h
 unfold BO at h
 dsimp only at h
 split at h
 ·cases h; exact Jb
 ·cases h; exact tD
 ·cases h; exact yi
 ·cases h; exact Hd
 ·cases h
theorem Gx : Con.Holds Tryd.prog glob 9 Zv_c :=
 ah (C:=BO) (A:=Cn) (outs:=[(.tmp 0,true,.bool)]) au JF (by kernel_rfl) (by kernel_rfl) ID (by kernel_rfl) (by kernel_rfl) Pn
def PD : List (LoopPf su rT (aa Tryd.f46)):=[⟨3,Bf,o6,rfl,Lo⟩]
theorem Fq : ap su rT (ag (aa Tryd.f46)):=ai PD (by kernel_rfl) (by kernel_rfl)
theorem Ib : ∀ f site c,(su).con f site=some c→c.Holds Tryd.prog (su).glob f:=by
 intro f site c h; cases h
theorem EQ : Con.Holds Tryd.prog glob 46 Zae_c :=
 ah (C:=su) (A:=rT) (outs:=[(.tmp 2,true,(.slice I))]) au Ib (by kernel_rfl) (by kernel_rfl) Fq (by kernel_rfl) (by kernel_rfl) Mb
def OQ : List (LoopPf lf l6 (aa Tryd.f29)):=[⟨4,BH,oM,rfl,MJ⟩,⟨13,wi,kp,rfl,JG⟩,⟨16,wB,kk,rfl,Kj⟩]
theorem EA : ap lf l6 (ag (aa Tryd.f29)):=ai OQ (by kernel_rfl) (by kernel_rfl)
theorem Hv : ∀ f site c,(lf).con f site=some c→c.Holds Tryd.prog (lf).glob f:=by
 intro f site c h
 unfold lf at h
 dsimp only at h
 split at h
 ·cases h; exact EQ
 ·cases h
theorem nz : Con.Holds Tryd.prog glob 29 Zad_c :=
 ah (C:=lf) (A:=l6) (outs:=[(.tmp 2,true,.bool)]) au Hv (by kernel_rfl) (by kernel_rfl) EA (by kernel_rfl) (by kernel_rfl) K3
def QC : List (LoopPf yX uU (aa Tryd.f55)):=[⟨3,HZ,uf,rfl,Og⟩,⟨7,HM,tW,rfl,OK⟩]
theorem G3 : ap yX uU (ag (aa Tryd.f55)):=ai QC (by kernel_rfl) (by kernel_rfl)
theorem JU : ∀ f site c,(yX).con f site=some c→c.Holds Tryd.prog (yX).glob f:=by
 intro f site c h; cases h
theorem I6 : Con.Holds Tryd.prog glob 55 Zm_c :=
 ah (C:=yX) (A:=uU) (outs:=[(.tmp 2,true,(.slice I))]) au JU (by kernel_rfl) (by kernel_rfl) G3 (by kernel_rfl) (by kernel_rfl) PC
def Qj : List (LoopPf EG CY (aa Tryd.f48)):=[]
theorem Ia : ap EG CY (ag (aa Tryd.f48)):=ai Qj (by kernel_rfl) (by kernel_rfl)
theorem Kx : ∀ f site c,(EG).con f site=some c→c.Holds Tryd.prog (EG).glob f:=by
 intro f site c h; cases h
theorem xH : Con.Holds Tryd.prog glob 48 Zu_c :=
 ah (C:=EG) (A:=CY) (outs:=[(.tmp 2,true,I)]) au Kx (by kernel_rfl) (by kernel_rfl) Ia (by kernel_rfl) (by kernel_rfl) Ol
def P3 : List (LoopPf mp oG (aa Tryd.f33)):=[⟨7,zS,nm,rfl,MK⟩,⟨12,xa,kx,rfl,Kh⟩]
theorem Fp : ap mp oG (ag (aa Tryd.f33)):=ai P3 (by kernel_rfl) (by kernel_rfl)
theorem HR : ∀ f site c,(mp).con f site=some c→c.Holds Tryd.prog (mp).glob f:=by
 intro f site c h
 unfold mp at h
 dsimp only at h
 split at h
 ·cases h; exact nz
 ·cases h; exact xH
 ·cases h; exact I6
 ·cases h
theorem nK : Con.Holds Tryd.prog glob 33 Zaa_c :=
 ah (C:=mp) (A:=oG) (outs:=[(.tmp 2,true,(.slice (.slice I)))]) au HR (by kernel_rfl) (by kernel_rfl) Fp (by kernel_rfl) (by kernel_rfl) NO
def Pl : List (LoopPf rc sT (aa Tryd.f79)):=[⟨1,Bp,n9,rfl,LW⟩]
theorem D7 : ap rc sT (ag (aa Tryd.f79)):=ai Pl (by kernel_rfl) (by kernel_rfl)
theorem GF : ∀ f site c,(rc).con f site=some c→c.Holds Tryd.prog (rc).glob f:=by
 intro f site c h; cases h
theorem EO : Con.Holds Tryd.prog glob 79 Zal_c :=
 ah (C:=rc) (A:=sT) (outs:=[(.tmp 4,true,I)]) au GF (by kernel_rfl) (by kernel_rfl) D7 (by kernel_rfl) (by kernel_rfl) NA
def Qy : List (LoopPf vT va (aa Tryd.f53)):=[⟨3,Gg,mL,rfl,Ov⟩,⟨8,Ha,t6,rfl,PR⟩]
theorem GG : ap vT va (ag (aa Tryd.f53)):=ai Qy (by kernel_rfl) (by kernel_rfl)
theorem KI : ∀ f site c,(vT).con f site=some c→c.Holds Tryd.prog (vT).glob f:=by
 intro f site c h
 unfold vT at h
 dsimp only at h
 split at h
 ·cases h; exact EO
 ·cases h
theorem yh : Con.Holds Tryd.prog glob 53 Zd_c :=
 ah (C:=vT) (A:=va) (outs:=[(.tmp 2,true,I)]) au KI (by kernel_rfl) (by kernel_rfl) GG (by kernel_rfl) (by kernel_rfl) OO
def O1 : List (LoopPf pX qQ (aa Tryd.f52)):=[⟨5,Bg,jk,rfl,Nb⟩]
theorem EX : ap pX qQ (ag (aa Tryd.f52)):=ai O1 (by kernel_rfl) (by kernel_rfl)
theorem FU : ∀ f site c,(pX).con f site=some c→c.Holds Tryd.prog (pX).glob f:=by
 intro f site c h
 unfold pX at h
 dsimp only at h
 split at h
 ·cases h; exact nz
 ·cases h; exact nK
 ·cases h; exact yh
 ·cases h
theorem D6 : Con.Holds Tryd.prog glob 52 Zac_c :=
 ah (C:=pX) (A:=qQ) (outs:=[(.tmp 2,true,I)]) au FU (by kernel_rfl) (by kernel_rfl) EX (by kernel_rfl) (by kernel_rfl) MT
def P5 : List (LoopPf BI CZ (aa Tryd.f30)):=[]
theorem GC : ap BI CZ (ag (aa Tryd.f30)):=ai P5 (by kernel_rfl) (by kernel_rfl)
theorem Kz : ∀ f site c,(BI).con f site=some c→c.Holds Tryd.prog (BI).glob f:=by
 intro f site c h
 unfold BI at h
 dsimp only at h
 split at h
 ·cases h; exact D6
 ·cases h; exact yh
 ·cases h
theorem In : Con.Holds Tryd.prog glob 30 Zn_c :=
 ah (C:=BI) (A:=CZ) (outs:=[(.tmp 2,true,.bool)]) au Kz (by kernel_rfl) (by kernel_rfl) GC (by kernel_rfl) (by kernel_rfl) P2
def PL : List (LoopPf px oy (aa Tryd.f31)):=[⟨2,BB,oN,rfl,NQ⟩,⟨6,AP,oO,rfl,Nd⟩]
theorem De : ap px oy (ag (aa Tryd.f31)):=ai PL (by kernel_rfl) (by kernel_rfl)
theorem IJ : ∀ f site c,(px).con f site=some c→c.Holds Tryd.prog (px).glob f:=by
 intro f site c h; cases h
theorem Dj : Con.Holds Tryd.prog glob 31 Zaf_c :=
 ah (C:=px) (A:=oy) (outs:=[(.tmp 2,true,.bool)]) au IJ (by kernel_rfl) (by kernel_rfl) De (by kernel_rfl) (by kernel_rfl) LH
def Qt : List (LoopPf Eg C1 (aa Tryd.f80)):=[]
theorem IV : ap Eg C1 (ag (aa Tryd.f80)):=ai Qt (by kernel_rfl) (by kernel_rfl)
theorem KJ : ∀ f site c,(Eg).con f site=some c→c.Holds Tryd.prog (Eg).glob f:=by
 intro f site c h; cases h
theorem Gf : Con.Holds Tryd.prog glob 80 Zg_c :=
 ah (C:=Eg) (A:=C1) (outs:=[(.tmp 2,true,(.int .u8))]) au KJ (by kernel_rfl) (by kernel_rfl) IV (by kernel_rfl) (by kernel_rfl) PS
def Qu : List (LoopPf yC yc (aa Tryd.f54)):=[⟨3,HA,s7,rfl,Oy⟩]
theorem G6 : ap yC yc (ag (aa Tryd.f54)):=ai Qu (by kernel_rfl) (by kernel_rfl)
theorem Kq : ∀ f site c,(yC).con f site=some c→c.Holds Tryd.prog (yC).glob f:=by
 intro f site c h
 unfold yC at h
 dsimp only at h
 split at h
 ·cases h; exact Gf
 ·cases h
theorem Ir : Con.Holds Tryd.prog glob 54 Zj_c :=
 ah (C:=yC) (A:=yc) (outs:=[(.tmp 2,true,.str)]) au Kq (by kernel_rfl) (by kernel_rfl) G6 (by kernel_rfl) (by kernel_rfl) Oo
def OI : List (LoopPf ng oB (aa Tryd.f32)):=[⟨2,Bz,nH,rfl,NH⟩,⟨7,Bc,o4,rfl,MW⟩]
theorem D8 : ap ng oB (ag (aa Tryd.f32)):=ai OI (by kernel_rfl) (by kernel_rfl)
theorem Hc : ∀ f site c,(ng).con f site=some c→c.Holds Tryd.prog (ng).glob f:=by
 intro f site c h
 unfold ng at h
 dsimp only at h
 split at h
 ·cases h; exact Ir
 ·cases h
theorem DB : Con.Holds Tryd.prog glob 32 Zab_c :=
 ah (C:=ng) (A:=oB) (outs:=[(.tmp 2,true,.bool)]) au Hc (by kernel_rfl) (by kernel_rfl) D8 (by kernel_rfl) (by kernel_rfl) Md
def OP : List (LoopPf qW rj (aa Tryd.f34)):=[⟨2,BX,lx,rfl,LA⟩]
theorem Eh : ap qW rj (ag (aa Tryd.f34)):=ai OP (by kernel_rfl) (by kernel_rfl)
theorem IX : ∀ f site c,(qW).con f site=some c→c.Holds Tryd.prog (qW).glob f:=by
 intro f site c h; cases h
theorem Dz : Con.Holds Tryd.prog glob 34 Zaw_c :=
 ah (C:=qW) (A:=rj) (outs:=[(.tmp 4,true,.bool)]) au IX (by kernel_rfl) (by kernel_rfl) Eh (by kernel_rfl) (by kernel_rfl) Nh
def Of : List (LoopPf rR s6 (aa Tryd.f56)):=[⟨3,BM,nY,rfl,ND⟩]
theorem DM : ap rR s6 (ag (aa Tryd.f56)):=ai Of (by kernel_rfl) (by kernel_rfl)
theorem Hy : ∀ f site c,(rR).con f site=some c→c.Holds Tryd.prog (rR).glob f:=by
 intro f site c h; cases h
theorem EW : Con.Holds Tryd.prog glob 56 Zaj_c :=
 ah (C:=rR) (A:=s6) (outs:=[(.tmp 2,true,I)]) au Hy (by kernel_rfl) (by kernel_rfl) DM (by kernel_rfl) (by kernel_rfl) Ln
def Qc : List (LoopPf xO xk (aa Tryd.f35)):=[⟨3,Hw,ud,rfl,N5⟩]
theorem GM : ap xO xk (ag (aa Tryd.f35)):=ai Qc (by kernel_rfl) (by kernel_rfl)
theorem JC : ∀ f site c,(xO).con f site=some c→c.Holds Tryd.prog (xO).glob f:=by
 intro f site c h
 unfold xO at h
 dsimp only at h
 split at h
 ·cases h; exact EW
 ·cases h
theorem Hu : Con.Holds Tryd.prog glob 35 Zx_c :=
 ah (C:=xO) (A:=xk) (outs:=[(.tmp 4,true,I)]) au JC (by kernel_rfl) (by kernel_rfl) GM (by kernel_rfl) (by kernel_rfl) Pg
def Qz : List (LoopPf xz xW (aa Tryd.f13)):=[⟨8,HL,uE,rfl,Ph⟩]
theorem G7 : ap xz xW (ag (aa Tryd.f13)):=ai Qz (by kernel_rfl) (by kernel_rfl)
theorem Ks : ∀ f site c,(xz).con f site=some c→c.Holds Tryd.prog (xz).glob f:=by
 intro f site c h
 unfold xz at h
 dsimp only at h
 split at h
 ·cases h; exact nz
 ·cases h; exact In
 ·cases h; exact Dj
 ·cases h; exact DB
 ·cases h; exact nK
 ·cases h; exact Dz
 ·cases h; exact Hu
 ·cases h
theorem xp : Con.Holds Tryd.prog glob 13 Zs_c :=
 ah (C:=xz) (A:=xW) (outs:=[(.tmp 2,true,I)]) au Ks (by kernel_rfl) (by kernel_rfl) G7 (by kernel_rfl) (by kernel_rfl) Ok
def Qp : List (LoopPf zd t5 (aa Tryd.f78)):=[⟨4,Ho,xq,rfl,Oc⟩,⟨8,Io,xK,rfl,OB⟩]
theorem Gk : ap zd t5 (ag (aa Tryd.f78)):=ai Qp (by kernel_rfl) (by kernel_rfl)
theorem J1 : ∀ f site c,(zd).con f site=some c→c.Holds Tryd.prog (zd).glob f:=by
 intro f site c h; cases h
theorem Iq : Con.Holds Tryd.prog glob 78 Zp_c :=
 ah (C:=zd) (A:=t5) (outs:=[(.tmp 4,true,.bool)]) au J1 (by kernel_rfl) (by kernel_rfl) Gk (by kernel_rfl) (by kernel_rfl) OD
def PI : List (LoopPf mw nJ (aa Tryd.f51)):=[⟨4,zo,ow,rfl,M0⟩,⟨9,BK,nq,rfl,MX⟩]
theorem Ez : ap mw nJ (ag (aa Tryd.f51)):=ai PI (by kernel_rfl) (by kernel_rfl)
theorem Ju : ∀ f site c,(mw).con f site=some c→c.Holds Tryd.prog (mw).glob f:=by
 intro f site c h
 unfold mw at h
 dsimp only at h
 split at h
 ·cases h; exact Iq
 ·cases h
theorem Fz : Con.Holds Tryd.prog glob 51 Zak_c :=
 ah (C:=mw) (A:=nJ) (outs:=[(.tmp 4,true,.bool)]) au Ju (by kernel_rfl) (by kernel_rfl) Ez (by kernel_rfl) (by kernel_rfl) Mz
def Qk : List (LoopPf vv ue (aa Tryd.f28)):=[⟨4,IU,uw,rfl,OV⟩,⟨7,GT,tN,rfl,N3⟩]
theorem Ik : ap vv ue (ag (aa Tryd.f28)):=ai Qk (by kernel_rfl) (by kernel_rfl)
theorem JH : ∀ f site c,(vv).con f site=some c→c.Holds Tryd.prog (vv).glob f:=by
 intro f site c h
 unfold vv at h
 dsimp only at h
 split at h
 ·cases h; exact Fz
 ·cases h
theorem FV : Con.Holds Tryd.prog glob 28 Zw_c :=
 ah (C:=vv) (A:=ue) (outs:=[(.tmp 4,true,.bool)]) au JH (by kernel_rfl) (by kernel_rfl) Ik (by kernel_rfl) (by kernel_rfl) ON
def Pu : List (LoopPf mZ nR (aa Tryd.f12)):=[⟨4,AG,ny,rfl,NC⟩,⟨9,zL,oI,rfl,NK⟩]
theorem DL : ap mZ nR (ag (aa Tryd.f12)):=ai Pu (by kernel_rfl) (by kernel_rfl)
theorem G8 : ∀ f site c,(mZ).con f site=some c→c.Holds Tryd.prog (mZ).glob f:=by
 intro f site c h
 unfold mZ at h
 dsimp only at h
 split at h
 ·cases h; exact FV
 ·cases h
theorem EP : Con.Holds Tryd.prog glob 12 Zah_c :=
 ah (C:=mZ) (A:=nR) (outs:=[(.tmp 4,true,.bool)]) au G8 (by kernel_rfl) (by kernel_rfl) DL (by kernel_rfl) (by kernel_rfl) Ni
def Qv : List (LoopPf zN yH (aa Tryd.f14)):=[⟨2,HH,vg,rfl,Oa⟩]
theorem IW : ap zN yH (ag (aa Tryd.f14)):=ai Qv (by kernel_rfl) (by kernel_rfl)
theorem Kp : ∀ f site c,(zN).con f site=some c→c.Holds Tryd.prog (zN).glob f:=by
 intro f site c h; cases h
theorem yZ : Con.Holds Tryd.prog glob 14 Zt_c :=
 ah (C:=zN) (A:=yH) (outs:=[(.tmp 2,true,.bool)]) au Kp (by kernel_rfl) (by kernel_rfl) IW (by kernel_rfl) (by kernel_rfl) Px
def Qm : List (LoopPf wW uT (aa Tryd.f43)):=[⟨3,Ge,yg,rfl,OZ⟩,⟨6,Il,vd,rfl,Ob⟩]
theorem HP : ap wW uT (ag (aa Tryd.f43)):=ai Qm (by kernel_rfl) (by kernel_rfl)
theorem Ku : ∀ f site c,(wW).con f site=some c→c.Holds Tryd.prog (wW).glob f:=by
 intro f site c h
 unfold wW at h
 dsimp only at h
 split at h
 ·cases h; exact nK
 ·cases h
theorem GV : Con.Holds Tryd.prog glob 43 Zy_c :=
 ah (C:=wW) (A:=uT) (outs:=[(.tmp 2,true,(.slice (.slice I))),(.tmp 3,true,I)]) au Ku (by kernel_rfl) (by kernel_rfl) HP (by kernel_rfl) (by kernel_rfl) OT
def OS : List (LoopPf pk sA (aa Tryd.f44)):=[⟨3,Ba,nW,rfl,NN⟩]
theorem DA : ap pk sA (ag (aa Tryd.f44)):=ai OS (by kernel_rfl) (by kernel_rfl)
theorem IZ : ∀ f site c,(pk).con f site=some c→c.Holds Tryd.prog (pk).glob f:=by
 intro f site c h
 unfold pk at h
 dsimp only at h
 split at h
 ·cases h; exact xH
 ·cases h
theorem DD : Con.Holds Tryd.prog glob 44 Zau_c :=
 ah (C:=pk) (A:=sA) (outs:=[(.tmp 6,true,.bool)]) au IZ (by kernel_rfl) (by kernel_rfl) DA (by kernel_rfl) (by kernel_rfl) Me
def Ql : List (LoopPf yE yr (aa Tryd.f17)):=[⟨5,IF,uH,rfl,O5⟩]
theorem HJ : ap yE yr (ag (aa Tryd.f17)):=ai Ql (by kernel_rfl) (by kernel_rfl)
theorem Jy : ∀ f site c,(yE).con f site=some c→c.Holds Tryd.prog (yE).glob f:=by
 intro f site c h
 unfold yE at h
 dsimp only at h
 split at h
 ·cases h; exact xp
 ·cases h; exact yZ
 ·cases h; exact GV
 ·cases h; exact DD
 ·cases h
theorem HX : Con.Holds Tryd.prog glob 17 Zc_c :=
 ah (C:=yE) (A:=yr) (outs:=[(.tmp 2,true,.bool)]) au Jy (by kernel_rfl) (by kernel_rfl) HJ (by kernel_rfl) (by kernel_rfl) Oi
def Qw : List (LoopPf Ag Cm (aa Tryd.f4)):=[]
theorem FO : ap Ag Cm (ag (aa Tryd.f4)):=ai Qw (by kernel_rfl) (by kernel_rfl)
theorem KO : ∀ f site c,(Ag).con f site=some c→c.Holds Tryd.prog (Ag).glob f:=by
 intro f site c h
 unfold Ag at h
 dsimp only at h
 split at h
 ·cases h; exact DJ
 ·cases h; exact Gx
 ·cases h; exact EP
 ·cases h; exact xp
 ·cases h; exact yZ
 ·cases h; exact tD
 ·cases h; exact yi
 ·cases h; exact HX
 ·cases h
theorem FM : Con.Holds Tryd.prog glob 4 Zb_c :=
 ah (C:=Ag) (A:=Cm) (outs:=[(.tmp 2,true,.bool)]) au KO (by kernel_rfl) (by kernel_rfl) FO (by kernel_rfl) (by kernel_rfl) Pd
def QI : List (LoopPf Pp KT (aa Tryd.f19)):=[⟨5,Iw,sj,rfl,PM⟩]
end
end Go.Vm
