/-
 Contracts of the functions that the law reaches.
-/
import Derived.Test.YtgihliccohoggaaDoorD33
import Derived.Test.YtgihliccohoggaaDoorVmD
import Derived.Test.YtgihliccohoggaaDoorS33
set_option linter.unusedVariables false
set_option linter.unusedSimpArgs false
namespace Go.Vm
open Go.Proofs
noncomputable section
set_option maxRecDepth 100000
theorem seat_ok : SeatOK Tryd.prog tab eqs:=⟨by kernel_rfl,by kernel_rfl,by kernel_rfl⟩
def Zad_P : List (LoopPf Zad_C Zad_As (bodyOf Tryd.f12)):=[]
theorem Zad_loops : LoopsOK Zad_C Zad_As (loopsIn (bodyOf Tryd.f12)):=loops_ok Zad_P (by kernel_rfl) (by kernel_rfl)
theorem Zad_cons : ∀ f site c,(Zad_C).con f site=some c→c.Holds Tryd.prog (Zad_C).glob f:=by
 intro f site c h; cases h
theorem Zad_holds : Con.Holds Tryd.prog glob 12 Zad_c :=
 fn_holds (C:=Zad_C) (A:=Zad_As) (outs:=[(.tmp 6,true,.bool)]) seat_ok Zad_cons (by kernel_rfl) (by kernel_rfl) Zad_loops (by kernel_rfl) (by kernel_rfl) Zad_eq
def Zs_P : List (LoopPf Zs_C Zs_As (bodyOf Tryd.f37)):=[]
theorem Zs_loops : LoopsOK Zs_C Zs_As (loopsIn (bodyOf Tryd.f37)):=loops_ok Zs_P (by kernel_rfl) (by kernel_rfl)
theorem Zs_cons : ∀ f site c,(Zs_C).con f site=some c→c.Holds Tryd.prog (Zs_C).glob f:=by
 intro f site c h; cases h
theorem Zs_holds : Con.Holds Tryd.prog glob 37 Zs_c :=
 fn_holds (C:=Zs_C) (A:=Zs_As) (outs:=[(.cell 0 25,true,(.prod I (.prod (.slice (.prod I (.prod I .unit))) (.prod (.slice (.slice I)) .unit))))]) seat_ok Zs_cons (by kernel_rfl) (by kernel_rfl) Zs_loops (by kernel_rfl) (by kernel_rfl) Zs_eq
def Zbj_P : List (LoopPf Zbj_C Zbj_As (bodyOf Tryd.f62)):=[]
theorem Zbj_loops : LoopsOK Zbj_C Zbj_As (loopsIn (bodyOf Tryd.f62)):=loops_ok Zbj_P (by kernel_rfl) (by kernel_rfl)
theorem Zbj_cons : ∀ f site c,(Zbj_C).con f site=some c→c.Holds Tryd.prog (Zbj_C).glob f:=by
 intro f site c h; cases h
theorem Zbj_holds : Con.Holds Tryd.prog glob 62 Zbj_c :=
 fn_holds (C:=Zbj_C) (A:=Zbj_As) (outs:=[(.tmp 4,true,I)]) seat_ok Zbj_cons (by kernel_rfl) (by kernel_rfl) Zbj_loops (by kernel_rfl) (by kernel_rfl) Zbj_eq
def Zaz_P : List (LoopPf Zaz_C Zaz_As (bodyOf Tryd.f38)):=[⟨4,Zaz_A4,Zaz_B4,rfl,Zaz_R4⟩,⟨12,Zaz_A12,Zaz_B12,rfl,Zaz_R12⟩,⟨15,Zaz_A15,Zaz_B15,rfl,Zaz_R15⟩]
theorem Zaz_loops : LoopsOK Zaz_C Zaz_As (loopsIn (bodyOf Tryd.f38)):=loops_ok Zaz_P (by kernel_rfl) (by kernel_rfl)
theorem Zaz_cons : ∀ f site c,(Zaz_C).con f site=some c→c.Holds Tryd.prog (Zaz_C).glob f:=by
 intro f site c h
 unfold Zaz_C at h
 dsimp only at h
 split at h
 ·cases h; exact Zbj_holds
 ·cases h
theorem Zaz_holds : Con.Holds Tryd.prog glob 38 Zaz_c :=
 fn_holds (C:=Zaz_C) (A:=Zaz_As) (outs:=[(.tmp 2,true,.bool)]) seat_ok Zaz_cons (by kernel_rfl) (by kernel_rfl) Zaz_loops (by kernel_rfl) (by kernel_rfl) Zaz_eq
def Zay_P : List (LoopPf Zay_C Zay_As (bodyOf Tryd.f89)):=[⟨3,Zay_A3,Zay_B3,rfl,Zay_R3⟩,⟨6,Zay_A6,Zay_B6,rfl,Zay_R6⟩]
theorem Zay_loops : LoopsOK Zay_C Zay_As (loopsIn (bodyOf Tryd.f89)):=loops_ok Zay_P (by kernel_rfl) (by kernel_rfl)
theorem Zay_cons : ∀ f site c,(Zay_C).con f site=some c→c.Holds Tryd.prog (Zay_C).glob f:=by
 intro f site c h; cases h
theorem Zay_holds : Con.Holds Tryd.prog glob 89 Zay_c :=
 fn_holds (C:=Zay_C) (A:=Zay_As) (outs:=[(.tmp 2,true,(.slice I))]) seat_ok Zay_cons (by kernel_rfl) (by kernel_rfl) Zay_loops (by kernel_rfl) (by kernel_rfl) Zay_eq
def Zbd_P : List (LoopPf Zbd_C Zbd_As (bodyOf Tryd.f58)):=[⟨7,Zbd_A7,Zbd_B7,rfl,Zbd_R7⟩,⟨11,Zbd_A11,Zbd_B11,rfl,Zbd_R11⟩]
theorem Zbd_loops : LoopsOK Zbd_C Zbd_As (loopsIn (bodyOf Tryd.f58)):=loops_ok Zbd_P (by kernel_rfl) (by kernel_rfl)
theorem Zbd_cons : ∀ f site c,(Zbd_C).con f site=some c→c.Holds Tryd.prog (Zbd_C).glob f:=by
 intro f site c h
 unfold Zbd_C at h
 dsimp only at h
 split at h
 ·cases h; exact Zaz_holds
 ·cases h; exact Zay_holds
 ·cases h
theorem Zbd_holds : Con.Holds Tryd.prog glob 58 Zbd_c :=
 fn_holds (C:=Zbd_C) (A:=Zbd_As) (outs:=[(.tmp 2,true,(.slice (.slice I)))]) seat_ok Zbd_cons (by kernel_rfl) (by kernel_rfl) Zbd_loops (by kernel_rfl) (by kernel_rfl) Zbd_eq
def Zm_P : List (LoopPf Zm_C Zm_As (bodyOf Tryd.f103)):=[⟨4,Zm_A4,Zm_B4,rfl,Zm_R4⟩,⟨10,Zm_A10,Zm_B10,rfl,Zm_R10⟩,⟨13,Zm_A13,Zm_B13,rfl,Zm_R13⟩]
theorem Zm_loops : LoopsOK Zm_C Zm_As (loopsIn (bodyOf Tryd.f103)):=loops_ok Zm_P (by kernel_rfl) (by kernel_rfl)
theorem Zm_cons : ∀ f site c,(Zm_C).con f site=some c→c.Holds Tryd.prog (Zm_C).glob f:=by
 intro f site c h
 unfold Zm_C at h
 dsimp only at h
 split at h
 ·cases h; exact Zbj_holds
 ·cases h
theorem Zm_holds : Con.Holds Tryd.prog glob 103 Zm_c :=
 fn_holds (C:=Zm_C) (A:=Zm_As) (outs:=[(.tmp 2,true,I)]) seat_ok Zm_cons (by kernel_rfl) (by kernel_rfl) Zm_loops (by kernel_rfl) (by kernel_rfl) Zm_eq
def Zbb_P : List (LoopPf Zbb_C Zbb_As (bodyOf Tryd.f85)):=[⟨5,Zbb_A5,Zbb_B5,rfl,Zbb_R5⟩]
theorem Zbb_loops : LoopsOK Zbb_C Zbb_As (loopsIn (bodyOf Tryd.f85)):=loops_ok Zbb_P (by kernel_rfl) (by kernel_rfl)
theorem Zbb_cons : ∀ f site c,(Zbb_C).con f site=some c→c.Holds Tryd.prog (Zbb_C).glob f:=by
 intro f site c h
 unfold Zbb_C at h
 dsimp only at h
 split at h
 ·cases h; exact Zaz_holds
 ·cases h; exact Zbd_holds
 ·cases h; exact Zm_holds
 ·cases h
theorem Zbb_holds : Con.Holds Tryd.prog glob 85 Zbb_c :=
 fn_holds (C:=Zbb_C) (A:=Zbb_As) (outs:=[(.tmp 2,true,I)]) seat_ok Zbb_cons (by kernel_rfl) (by kernel_rfl) Zbb_loops (by kernel_rfl) (by kernel_rfl) Zbb_eq
def Zba_P : List (LoopPf Zba_C Zba_As (bodyOf Tryd.f96)):=[⟨7,Zba_A7,Zba_B7,rfl,Zba_R7⟩,⟨10,Zba_A10,Zba_B10,rfl,Zba_R10⟩]
theorem Zba_loops : LoopsOK Zba_C Zba_As (loopsIn (bodyOf Tryd.f96)):=loops_ok Zba_P (by kernel_rfl) (by kernel_rfl)
theorem Zba_cons : ∀ f site c,(Zba_C).con f site=some c→c.Holds Tryd.prog (Zba_C).glob f:=by
 intro f site c h; cases h
theorem Zba_holds : Con.Holds Tryd.prog glob 96 Zba_c :=
 fn_holds (C:=Zba_C) (A:=Zba_As) (outs:=[(.tmp 2,true,.bool)]) seat_ok Zba_cons (by kernel_rfl) (by kernel_rfl) Zba_loops (by kernel_rfl) (by kernel_rfl) Zba_eq
def Zbt_P : List (LoopPf Zbt_C Zbt_As (bodyOf Tryd.f68)):=[]
theorem Zbt_loops : LoopsOK Zbt_C Zbt_As (loopsIn (bodyOf Tryd.f68)):=loops_ok Zbt_P (by kernel_rfl) (by kernel_rfl)
theorem Zbt_cons : ∀ f site c,(Zbt_C).con f site=some c→c.Holds Tryd.prog (Zbt_C).glob f:=by
 intro f site c h
 unfold Zbt_C at h
 dsimp only at h
 split at h
 ·cases h; exact Zaz_holds
 ·cases h; exact Zbb_holds
 ·cases h; exact Zba_holds
 ·cases h
theorem Zbt_holds : Con.Holds Tryd.prog glob 68 Zbt_c :=
 fn_holds (C:=Zbt_C) (A:=Zbt_As) (outs:=[(.tmp 2,true,I)]) seat_ok Zbt_cons (by kernel_rfl) (by kernel_rfl) Zbt_loops (by kernel_rfl) (by kernel_rfl) Zbt_eq
def Zbk_P : List (LoopPf Zbk_C Zbk_As (bodyOf Tryd.f69)):=[⟨4,Zbk_A4,Zbk_B4,rfl,Zbk_R4⟩,⟨7,Zbk_A7,Zbk_B7,rfl,Zbk_R7⟩]
theorem Zbk_loops : LoopsOK Zbk_C Zbk_As (loopsIn (bodyOf Tryd.f69)):=loops_ok Zbk_P (by kernel_rfl) (by kernel_rfl)
theorem Zbk_cons : ∀ f site c,(Zbk_C).con f site=some c→c.Holds Tryd.prog (Zbk_C).glob f:=by
 intro f site c h
 unfold Zbk_C at h
 dsimp only at h
 split at h
 ·cases h; exact Zbd_holds
 ·cases h
theorem Zbk_holds : Con.Holds Tryd.prog glob 69 Zbk_c :=
 fn_holds (C:=Zbk_C) (A:=Zbk_As) (outs:=[(.tmp 2,true,(.slice I)),(.tmp 3,true,I)]) seat_ok Zbk_cons (by kernel_rfl) (by kernel_rfl) Zbk_loops (by kernel_rfl) (by kernel_rfl) Zbk_eq
theorem Zaw_holds : Con.Holds Tryd.prog glob 97 Zaw_c:=sort_at
theorem Zu_holds : Con.Holds Tryd.prog glob 98 Zu_c:=compact_at
def Zbp_P : List (LoopPf Zbp_C Zbp_As (bodyOf Tryd.f71)):=[⟨3,Zbp_A3,Zbp_B3,rfl,Zbp_R3⟩]
theorem Zbp_loops : LoopsOK Zbp_C Zbp_As (loopsIn (bodyOf Tryd.f71)):=loops_ok Zbp_P (by kernel_rfl) (by kernel_rfl)
theorem Zbp_cons : ∀ f site c,(Zbp_C).con f site=some c→c.Holds Tryd.prog (Zbp_C).glob f:=by
 intro f site c h
 unfold Zbp_C at h
 dsimp only at h
 split at h
 ·cases h; exact Zaw_holds
 ·cases h; exact Zu_holds
 ·cases h
theorem Zbp_holds : Con.Holds Tryd.prog glob 71 Zbp_c :=
 fn_holds (C:=Zbp_C) (A:=Zbp_As) (outs:=[(.tmp 6,true,(.slice I))]) seat_ok Zbp_cons (by kernel_rfl) (by kernel_rfl) Zbp_loops (by kernel_rfl) (by kernel_rfl) Zbp_eq
def Zas_P : List (LoopPf Zas_C Zas_As (bodyOf Tryd.f64)):=[]
theorem Zas_loops : LoopsOK Zas_C Zas_As (loopsIn (bodyOf Tryd.f64)):=loops_ok Zas_P (by kernel_rfl) (by kernel_rfl)
theorem Zas_cons : ∀ f site c,(Zas_C).con f site=some c→c.Holds Tryd.prog (Zas_C).glob f:=by
 intro f site c h; cases h
theorem Zas_holds : Con.Holds Tryd.prog glob 64 Zas_c :=
 fn_holds (C:=Zas_C) (A:=Zas_As) (outs:=[(.tmp 2,true,(.slice I))]) seat_ok Zas_cons (by kernel_rfl) (by kernel_rfl) Zas_loops (by kernel_rfl) (by kernel_rfl) Zas_eq
def Zbc_P : List (LoopPf Zbc_C Zbc_As (bodyOf Tryd.f70)):=[⟨3,Zbc_A3,Zbc_B3,rfl,Zbc_R3⟩,⟨9,Zbc_A9,Zbc_B9,rfl,Zbc_R9⟩,⟨13,Zbc_A13,Zbc_B13,rfl,Zbc_R13⟩,⟨17,Zbc_A17,Zbc_B17,rfl,Zbc_R17⟩,⟨20,Zbc_A20,Zbc_B20,rfl,Zbc_R20⟩]
theorem Zbc_loops : LoopsOK Zbc_C Zbc_As (loopsIn (bodyOf Tryd.f70)):=loops_ok Zbc_P (by kernel_rfl) (by kernel_rfl)
theorem Zbc_cons : ∀ f site c,(Zbc_C).con f site=some c→c.Holds Tryd.prog (Zbc_C).glob f:=by
 intro f site c h
 unfold Zbc_C at h
 dsimp only at h
 split at h
 ·cases h; exact Zas_holds
 ·cases h
theorem Zbc_holds : Con.Holds Tryd.prog glob 70 Zbc_c :=
 fn_holds (C:=Zbc_C) (A:=Zbc_As) (outs:=[(.tmp 8,true,(.slice I))]) seat_ok Zbc_cons (by kernel_rfl) (by kernel_rfl) Zbc_loops (by kernel_rfl) (by kernel_rfl) Zbc_eq
def Zbo_P : List (LoopPf Zbo_C Zbo_As (bodyOf Tryd.f73)):=[]
theorem Zbo_loops : LoopsOK Zbo_C Zbo_As (loopsIn (bodyOf Tryd.f73)):=loops_ok Zbo_P (by kernel_rfl) (by kernel_rfl)
theorem Zbo_cons : ∀ f site c,(Zbo_C).con f site=some c→c.Holds Tryd.prog (Zbo_C).glob f:=by
 intro f site c h; cases h
theorem Zbo_holds : Con.Holds Tryd.prog glob 73 Zbo_c :=
 fn_holds (C:=Zbo_C) (A:=Zbo_As) (outs:=[(.tmp 5,true,I)]) seat_ok Zbo_cons (by kernel_rfl) (by kernel_rfl) Zbo_loops (by kernel_rfl) (by kernel_rfl) Zbo_eq
def Ze_P : List (LoopPf Ze_C Ze_As (bodyOf Tryd.f72)):=[⟨5,Ze_A5,Ze_B5,rfl,Ze_R5⟩]
theorem Ze_loops : LoopsOK Ze_C Ze_As (loopsIn (bodyOf Tryd.f72)):=loops_ok Ze_P (by kernel_rfl) (by kernel_rfl)
theorem Ze_cons : ∀ f site c,(Ze_C).con f site=some c→c.Holds Tryd.prog (Ze_C).glob f:=by
 intro f site c h
 unfold Ze_C at h
 dsimp only at h
 split at h
 ·cases h; exact Zbo_holds
 ·cases h
theorem Ze_holds : Con.Holds Tryd.prog glob 72 Ze_c :=
 fn_holds (C:=Ze_C) (A:=Ze_As) (outs:=[(.tmp 4,true,I)]) seat_ok Ze_cons (by kernel_rfl) (by kernel_rfl) Ze_loops (by kernel_rfl) (by kernel_rfl) Ze_eq
def Zbm_P : List (LoopPf Zbm_C Zbm_As (bodyOf Tryd.f75)):=[]
theorem Zbm_loops : LoopsOK Zbm_C Zbm_As (loopsIn (bodyOf Tryd.f75)):=loops_ok Zbm_P (by kernel_rfl) (by kernel_rfl)
theorem Zbm_cons : ∀ f site c,(Zbm_C).con f site=some c→c.Holds Tryd.prog (Zbm_C).glob f:=by
 intro f site c h; cases h
theorem Zbm_holds : Con.Holds Tryd.prog glob 75 Zbm_c :=
 fn_holds (C:=Zbm_C) (A:=Zbm_As) (outs:=[(.tmp 4,true,.bool)]) seat_ok Zbm_cons (by kernel_rfl) (by kernel_rfl) Zbm_loops (by kernel_rfl) (by kernel_rfl) Zbm_eq
def Zd_P : List (LoopPf Zd_C Zd_As (bodyOf Tryd.f99)):=[⟨2,Zd_A2,Zd_B2,rfl,Zd_R2⟩]
theorem Zd_loops : LoopsOK Zd_C Zd_As (loopsIn (bodyOf Tryd.f99)):=loops_ok Zd_P (by kernel_rfl) (by kernel_rfl)
theorem Zd_cons : ∀ f site c,(Zd_C).con f site=some c→c.Holds Tryd.prog (Zd_C).glob f:=by
 intro f site c h
 unfold Zd_C at h
 dsimp only at h
 split at h
 ·cases h; exact Zbm_holds
 ·cases h
theorem Zd_holds : Con.Holds Tryd.prog glob 99 Zd_c :=
 fn_holds (C:=Zd_C) (A:=Zd_As) (outs:=[(.tmp 4,true,I)]) seat_ok Zd_cons (by kernel_rfl) (by kernel_rfl) Zd_loops (by kernel_rfl) (by kernel_rfl) Zd_eq
def Zc_P : List (LoopPf Zc_C Zc_As (bodyOf Tryd.f74)):=[⟨5,Zc_A5,Zc_B5,rfl,Zc_R5⟩]
theorem Zc_loops : LoopsOK Zc_C Zc_As (loopsIn (bodyOf Tryd.f74)):=loops_ok Zc_P (by kernel_rfl) (by kernel_rfl)
theorem Zc_cons : ∀ f site c,(Zc_C).con f site=some c→c.Holds Tryd.prog (Zc_C).glob f:=by
 intro f site c h
 unfold Zc_C at h
 dsimp only at h
 split at h
 ·cases h; exact Zbm_holds
 ·cases h; exact Zd_holds
 ·cases h
theorem Zc_holds : Con.Holds Tryd.prog glob 74 Zc_c :=
 fn_holds (C:=Zc_C) (A:=Zc_As) (outs:=[(.tmp 4,true,(.slice I))]) seat_ok Zc_cons (by kernel_rfl) (by kernel_rfl) Zc_loops (by kernel_rfl) (by kernel_rfl) Zc_eq
def Zan_P : List (LoopPf Zan_C Zan_As (bodyOf Tryd.f46)):=[⟨2,Zan_A2,Zan_B2,rfl,Zan_R2⟩]
theorem Zan_loops : LoopsOK Zan_C Zan_As (loopsIn (bodyOf Tryd.f46)):=loops_ok Zan_P (by kernel_rfl) (by kernel_rfl)
theorem Zan_cons : ∀ f site c,(Zan_C).con f site=some c→c.Holds Tryd.prog (Zan_C).glob f:=by
 intro f site c h; cases h
theorem Zan_holds : Con.Holds Tryd.prog glob 46 Zan_c :=
 fn_holds (C:=Zan_C) (A:=Zan_As) (outs:=[(.tmp 4,true,I)]) seat_ok Zan_cons (by kernel_rfl) (by kernel_rfl) Zan_loops (by kernel_rfl) (by kernel_rfl) Zan_eq
def Zn_P : List (LoopPf Zn_C Zn_As (bodyOf Tryd.f100)):=[]
theorem Zn_loops : LoopsOK Zn_C Zn_As (loopsIn (bodyOf Tryd.f100)):=loops_ok Zn_P (by kernel_rfl) (by kernel_rfl)
theorem Zn_cons : ∀ f site c,(Zn_C).con f site=some c→c.Holds Tryd.prog (Zn_C).glob f:=by
 intro f site c h
 unfold Zn_C at h
 dsimp only at h
 split at h
 ·cases h; exact Zan_holds
 ·cases h
theorem Zn_holds : Con.Holds Tryd.prog glob 100 Zn_c :=
 fn_holds (C:=Zn_C) (A:=Zn_As) (outs:=[(.tmp 4,true,.bool)]) seat_ok Zn_cons (by kernel_rfl) (by kernel_rfl) Zn_loops (by kernel_rfl) (by kernel_rfl) Zn_eq
def Zbv_P : List (LoopPf Zbv_C Zbv_As (bodyOf Tryd.f76)):=[⟨2,Zbv_A2,Zbv_B2,rfl,Zbv_R2⟩,⟨5,Zbv_A5,Zbv_B5,rfl,Zbv_R5⟩]
theorem Zbv_loops : LoopsOK Zbv_C Zbv_As (loopsIn (bodyOf Tryd.f76)):=loops_ok Zbv_P (by kernel_rfl) (by kernel_rfl)
theorem Zbv_cons : ∀ f site c,(Zbv_C).con f site=some c→c.Holds Tryd.prog (Zbv_C).glob f:=by
 intro f site c h
 unfold Zbv_C at h
 dsimp only at h
 split at h
 ·cases h; exact Zn_holds
 ·cases h
theorem Zbv_holds : Con.Holds Tryd.prog glob 76 Zbv_c :=
 fn_holds (C:=Zbv_C) (A:=Zbv_As) (outs:=[(.tmp 10,true,I),(.tmp 11,true,I)]) seat_ok Zbv_cons (by kernel_rfl) (by kernel_rfl) Zbv_loops (by kernel_rfl) (by kernel_rfl) Zbv_eq
def Zbu_P : List (LoopPf Zbu_C Zbu_As (bodyOf Tryd.f50)):=[⟨14,Zbu_A14,Zbu_B14,rfl,Zbu_R14⟩]
theorem Zbu_loops : LoopsOK Zbu_C Zbu_As (loopsIn (bodyOf Tryd.f50)):=loops_ok Zbu_P (by kernel_rfl) (by kernel_rfl)
theorem Zbu_cons : ∀ f site c,(Zbu_C).con f site=some c→c.Holds Tryd.prog (Zbu_C).glob f:=by
 intro f site c h
 unfold Zbu_C at h
 dsimp only at h
 split at h
 ·cases h; exact Zbt_holds
 ·cases h; exact Zbk_holds
 ·cases h; exact Zbc_holds
 ·cases h; exact Zbp_holds
 ·cases h; exact Ze_holds
 ·cases h; exact Zc_holds
 ·cases h; exact Zbv_holds
 ·cases h
theorem Zbu_holds : Con.Holds Tryd.prog glob 50 Zbu_c :=
 fn_holds (C:=Zbu_C) (A:=Zbu_As) (outs:=[(.tmp 6,true,(.slice I)),(.tmp 7,true,I)]) seat_ok Zbu_cons (by kernel_rfl) (by kernel_rfl) Zbu_loops (by kernel_rfl) (by kernel_rfl) Zbu_eq
def Zat_P : List (LoopPf Zat_C Zat_As (bodyOf Tryd.f63)):=[]
theorem Zat_loops : LoopsOK Zat_C Zat_As (loopsIn (bodyOf Tryd.f63)):=loops_ok Zat_P (by kernel_rfl) (by kernel_rfl)
theorem Zat_cons : ∀ f site c,(Zat_C).con f site=some c→c.Holds Tryd.prog (Zat_C).glob f:=by
 intro f site c h; cases h
theorem Zat_holds : Con.Holds Tryd.prog glob 63 Zat_c :=
 fn_holds (C:=Zat_C) (A:=Zat_As) (outs:=[(.tmp 2,true,(.slice (.prod I (.prod I .unit))))]) seat_ok Zat_cons (by kernel_rfl) (by kernel_rfl) Zat_loops (by kernel_rfl) (by kernel_rfl) Zat_eq
def Zbh_P : List (LoopPf Zbh_C Zbh_As (bodyOf Tryd.f41)):=[⟨3,Zbh_A3,Zbh_B3,rfl,Zbh_R3⟩]
theorem Zbh_loops : LoopsOK Zbh_C Zbh_As (loopsIn (bodyOf Tryd.f41)):=loops_ok Zbh_P (by kernel_rfl) (by kernel_rfl)
theorem Zbh_cons : ∀ f site c,(Zbh_C).con f site=some c→c.Holds Tryd.prog (Zbh_C).glob f:=by
 intro f site c h
 unfold Zbh_C at h
 dsimp only at h
 split at h
 ·cases h; exact Zat_holds
 ·cases h; exact Zas_holds
 ·cases h
theorem Zbh_holds : Con.Holds Tryd.prog glob 41 Zbh_c :=
 fn_holds (C:=Zbh_C) (A:=Zbh_As) (outs:=[(.cell 2 25,true,(.prod I (.prod (.slice (.prod I (.prod I .unit))) (.prod (.slice (.slice I)) .unit))))]) seat_ok Zbh_cons (by kernel_rfl) (by kernel_rfl) Zbh_loops (by kernel_rfl) (by kernel_rfl) Zbh_eq
def Zbl_P : List (LoopPf Zbl_C Zbl_As (bodyOf Tryd.f18)):=[]
theorem Zbl_loops : LoopsOK Zbl_C Zbl_As (loopsIn (bodyOf Tryd.f18)):=loops_ok Zbl_P (by kernel_rfl) (by kernel_rfl)
theorem Zbl_cons : ∀ f site c,(Zbl_C).con f site=some c→c.Holds Tryd.prog (Zbl_C).glob f:=by
 intro f site c h
 unfold Zbl_C at h
 dsimp only at h
 split at h
 ·cases h; exact Zaz_holds
 ·cases h; exact Zbh_holds
 ·cases h; exact Zan_holds
 ·cases h
theorem Zbl_holds : Con.Holds Tryd.prog glob 18 Zbl_c :=
 fn_holds (C:=Zbl_C) (A:=Zbl_As) (outs:=[(.cell 4 25,true,(.prod I (.prod (.slice (.prod I (.prod I .unit))) (.prod (.slice (.slice I)) .unit)))),(.tmp 5,true,I)]) seat_ok Zbl_cons (by kernel_rfl) (by kernel_rfl) Zbl_loops (by kernel_rfl) (by kernel_rfl) Zbl_eq
def Zbn_P : List (LoopPf Zbn_C Zbn_As (bodyOf Tryd.f40)):=[⟨3,Zbn_A3,Zbn_B3,rfl,Zbn_R3⟩,⟨6,Zbn_A6,Zbn_B6,rfl,Zbn_R6⟩]
theorem Zbn_loops : LoopsOK Zbn_C Zbn_As (loopsIn (bodyOf Tryd.f40)):=loops_ok Zbn_P (by kernel_rfl) (by kernel_rfl)
theorem Zbn_cons : ∀ f site c,(Zbn_C).con f site=some c→c.Holds Tryd.prog (Zbn_C).glob f:=by
 intro f site c h
 unfold Zbn_C at h
 dsimp only at h
 split at h
 ·cases h; exact Zbd_holds
 ·cases h
theorem Zbn_holds : Con.Holds Tryd.prog glob 40 Zbn_c :=
 fn_holds (C:=Zbn_C) (A:=Zbn_As) (outs:=[(.tmp 2,true,(.slice I))]) seat_ok Zbn_cons (by kernel_rfl) (by kernel_rfl) Zbn_loops (by kernel_rfl) (by kernel_rfl) Zbn_eq
def Zav_P : List (LoopPf Zav_C Zav_As (bodyOf Tryd.f80)):=[]
theorem Zav_loops : LoopsOK Zav_C Zav_As (loopsIn (bodyOf Tryd.f80)):=loops_ok Zav_P (by kernel_rfl) (by kernel_rfl)
theorem Zav_cons : ∀ f site c,(Zav_C).con f site=some c→c.Holds Tryd.prog (Zav_C).glob f:=by
 intro f site c h; cases h
theorem Zav_holds : Con.Holds Tryd.prog glob 80 Zav_c :=
 fn_holds (C:=Zav_C) (A:=Zav_As) (outs:=[(.tmp 4,true,.bool)]) seat_ok Zav_cons (by kernel_rfl) (by kernel_rfl) Zav_loops (by kernel_rfl) (by kernel_rfl) Zav_eq
def Zb_P : List (LoopPf Zb_C Zb_As (bodyOf Tryd.f99)):=[⟨2,Zb_A2,Zb_B2,rfl,Zb_R2⟩]
theorem Zb_loops : LoopsOK Zb_C Zb_As (loopsIn (bodyOf Tryd.f99)):=loops_ok Zb_P (by kernel_rfl) (by kernel_rfl)
theorem Zb_cons : ∀ f site c,(Zb_C).con f site=some c→c.Holds Tryd.prog (Zb_C).glob f:=by
 intro f site c h
 unfold Zb_C at h
 dsimp only at h
 split at h
 ·cases h; exact Zav_holds
 ·cases h
theorem Zb_holds : Con.Holds Tryd.prog glob 99 Zb_c :=
 fn_holds (C:=Zb_C) (A:=Zb_As) (outs:=[(.tmp 4,true,I)]) seat_ok Zb_cons (by kernel_rfl) (by kernel_rfl) Zb_loops (by kernel_rfl) (by kernel_rfl) Zb_eq
def Za_P : List (LoopPf Za_C Za_As (bodyOf Tryd.f79)):=[]
theorem Za_loops : LoopsOK Za_C Za_As (loopsIn (bodyOf Tryd.f79)):=loops_ok Za_P (by kernel_rfl) (by kernel_rfl)
theorem Za_cons : ∀ f site c,(Za_C).con f site=some c→c.Holds Tryd.prog (Za_C).glob f:=by
 intro f site c h
 unfold Za_C at h
 dsimp only at h
 split at h
 ·cases h; exact Zb_holds
 ·cases h
theorem Za_holds : Con.Holds Tryd.prog glob 79 Za_c :=
 fn_holds (C:=Za_C) (A:=Za_As) (outs:=[(.tmp 4,true,.bool)]) seat_ok Za_cons (by kernel_rfl) (by kernel_rfl) Za_loops (by kernel_rfl) (by kernel_rfl) Za_eq
def Zbi_P : List (LoopPf Zbi_C Zbi_As (bodyOf Tryd.f78)):=[]
theorem Zbi_loops : LoopsOK Zbi_C Zbi_As (loopsIn (bodyOf Tryd.f78)):=loops_ok Zbi_P (by kernel_rfl) (by kernel_rfl)
theorem Zbi_cons : ∀ f site c,(Zbi_C).con f site=some c→c.Holds Tryd.prog (Zbi_C).glob f:=by
 intro f site c h
 unfold Zbi_C at h
 dsimp only at h
 split at h
 ·cases h; exact Za_holds
 ·cases h
theorem Zbi_holds : Con.Holds Tryd.prog glob 78 Zbi_c :=
 fn_holds (C:=Zbi_C) (A:=Zbi_As) (outs:=[(.tmp 5,true,.bool)]) seat_ok Zbi_cons (by kernel_rfl) (by kernel_rfl) Zbi_loops (by kernel_rfl) (by kernel_rfl) Zbi_eq
def Zg_P : List (LoopPf Zg_C Zg_As (bodyOf Tryd.f77)):=[⟨3,Zg_A3,Zg_B3,rfl,Zg_R3⟩]
theorem Zg_loops : LoopsOK Zg_C Zg_As (loopsIn (bodyOf Tryd.f77)):=loops_ok Zg_P (by kernel_rfl) (by kernel_rfl)
theorem Zg_cons : ∀ f site c,(Zg_C).con f site=some c→c.Holds Tryd.prog (Zg_C).glob f:=by
 intro f site c h
 unfold Zg_C at h
 dsimp only at h
 split at h
 ·cases h; exact Zbi_holds
 ·cases h
theorem Zg_holds : Con.Holds Tryd.prog glob 77 Zg_c :=
 fn_holds (C:=Zg_C) (A:=Zg_As) (outs:=[(.tmp 4,true,I)]) seat_ok Zg_cons (by kernel_rfl) (by kernel_rfl) Zg_loops (by kernel_rfl) (by kernel_rfl) Zg_eq
def Zbe_P : List (LoopPf Zbe_C Zbe_As (bodyOf Tryd.f81)):=[]
theorem Zbe_loops : LoopsOK Zbe_C Zbe_As (loopsIn (bodyOf Tryd.f81)):=loops_ok Zbe_P (by kernel_rfl) (by kernel_rfl)
theorem Zbe_cons : ∀ f site c,(Zbe_C).con f site=some c→c.Holds Tryd.prog (Zbe_C).glob f:=by
 intro f site c h; cases h
theorem Zbe_holds : Con.Holds Tryd.prog glob 81 Zbe_c :=
 fn_holds (C:=Zbe_C) (A:=Zbe_As) (outs:=[(.tmp 4,true,.bool)]) seat_ok Zbe_cons (by kernel_rfl) (by kernel_rfl) Zbe_loops (by kernel_rfl) (by kernel_rfl) Zbe_eq
def Zf_P : List (LoopPf Zf_C Zf_As (bodyOf Tryd.f77)):=[⟨3,Zf_A3,Zf_B3,rfl,Zf_R3⟩]
theorem Zf_loops : LoopsOK Zf_C Zf_As (loopsIn (bodyOf Tryd.f77)):=loops_ok Zf_P (by kernel_rfl) (by kernel_rfl)
theorem Zf_cons : ∀ f site c,(Zf_C).con f site=some c→c.Holds Tryd.prog (Zf_C).glob f:=by
 intro f site c h
 unfold Zf_C at h
 dsimp only at h
 split at h
 ·cases h; exact Zbe_holds
 ·cases h
theorem Zf_holds : Con.Holds Tryd.prog glob 77 Zf_c :=
 fn_holds (C:=Zf_C) (A:=Zf_As) (outs:=[(.tmp 4,true,I)]) seat_ok Zf_cons (by kernel_rfl) (by kernel_rfl) Zf_loops (by kernel_rfl) (by kernel_rfl) Zf_eq
def Zbf_P : List (LoopPf Zbf_C Zbf_As (bodyOf Tryd.f39)):=[]
theorem Zbf_loops : LoopsOK Zbf_C Zbf_As (loopsIn (bodyOf Tryd.f39)):=loops_ok Zbf_P (by kernel_rfl) (by kernel_rfl)
theorem Zbf_cons : ∀ f site c,(Zbf_C).con f site=some c→c.Holds Tryd.prog (Zbf_C).glob f:=by
 intro f site c h
 unfold Zbf_C at h
 dsimp only at h
 split at h
 ·cases h; exact Zaz_holds
 ·cases h; exact Zbj_holds
 ·cases h
theorem Zbf_holds : Con.Holds Tryd.prog glob 39 Zbf_c :=
 fn_holds (C:=Zbf_C) (A:=Zbf_As) (outs:=[(.tmp 4,true,I)]) seat_ok Zbf_cons (by kernel_rfl) (by kernel_rfl) Zbf_loops (by kernel_rfl) (by kernel_rfl) Zbf_eq
theorem Zae_holds : Con.Holds Tryd.prog glob 65 Zae_c:=insert_at
def Zbg_P : List (LoopPf Zbg_C Zbg_As (bodyOf Tryd.f42)):=[]
theorem Zbg_loops : LoopsOK Zbg_C Zbg_As (loopsIn (bodyOf Tryd.f42)):=loops_ok Zbg_P (by kernel_rfl) (by kernel_rfl)
theorem Zbg_cons : ∀ f site c,(Zbg_C).con f site=some c→c.Holds Tryd.prog (Zbg_C).glob f:=by
 intro f site c h
 unfold Zbg_C at h
 dsimp only at h
 split at h
 ·cases h; exact Zan_holds
 ·cases h; exact Zae_holds
 ·cases h
theorem Zbg_holds : Con.Holds Tryd.prog glob 42 Zbg_c :=
 fn_holds (C:=Zbg_C) (A:=Zbg_As) (outs:=[(.tmp 6,true,(.slice I))]) seat_ok Zbg_cons (by kernel_rfl) (by kernel_rfl) Zbg_loops (by kernel_rfl) (by kernel_rfl) Zbg_eq
def Zbq_P : List (LoopPf Zbq_C Zbq_As (bodyOf Tryd.f14)):=[]
theorem Zbq_loops : LoopsOK Zbq_C Zbq_As (loopsIn (bodyOf Tryd.f14)):=loops_ok Zbq_P (by kernel_rfl) (by kernel_rfl)
theorem Zbq_cons : ∀ f site c,(Zbq_C).con f site=some c→c.Holds Tryd.prog (Zbq_C).glob f:=by
 intro f site c h
 unfold Zbq_C at h
 dsimp only at h
 split at h
 ·cases h; exact Zaz_holds
 ·cases h; exact Zbf_holds
 ·cases h; exact Zbn_holds
 ·cases h; exact Zbh_holds
 ·cases h; exact Zbg_holds
 ·cases h
theorem Zbq_holds : Con.Holds Tryd.prog glob 14 Zbq_c :=
 fn_holds (C:=Zbq_C) (A:=Zbq_As) (outs:=[(.cell 6 25,false,(.prod I (.prod (.slice (.prod I (.prod I .unit))) (.prod (.slice (.slice I)) .unit)))),(.tmp 7,true,I)]) seat_ok Zbq_cons (by kernel_rfl) (by kernel_rfl) Zbq_loops (by kernel_rfl) (by kernel_rfl) Zbq_eq
def Zbs_P : List (LoopPf Zbs_C Zbs_As (bodyOf Tryd.f51)):=[]
theorem Zbs_loops : LoopsOK Zbs_C Zbs_As (loopsIn (bodyOf Tryd.f51)):=loops_ok Zbs_P (by kernel_rfl) (by kernel_rfl)
theorem Zbs_cons : ∀ f site c,(Zbs_C).con f site=some c→c.Holds Tryd.prog (Zbs_C).glob f:=by
 intro f site c h
 unfold Zbs_C at h
 dsimp only at h
 split at h
 ·cases h; exact Zbq_holds
 ·cases h; exact Zbn_holds
 ·cases h; exact Zg_holds
 ·cases h; exact Zf_holds
 ·cases h
theorem Zbs_holds : Con.Holds Tryd.prog glob 51 Zbs_c :=
 fn_holds (C:=Zbs_C) (A:=Zbs_As) (outs:=[(.cell 6 25,false,(.prod I (.prod (.slice (.prod I (.prod I .unit))) (.prod (.slice (.slice I)) .unit)))),(.tmp 7,true,I)]) seat_ok Zbs_cons (by kernel_rfl) (by kernel_rfl) Zbs_loops (by kernel_rfl) (by kernel_rfl) Zbs_eq
def Zbr_P : List (LoopPf Zbr_C Zbr_As (bodyOf Tryd.f22)):=[⟨9,Zbr_A9,Zbr_B9,rfl,Zbr_R9⟩,⟨19,Zbr_A19,Zbr_B19,rfl,Zbr_R19⟩]
theorem Zbr_loops : LoopsOK Zbr_C Zbr_As (loopsIn (bodyOf Tryd.f22)):=loops_ok Zbr_P (by kernel_rfl) (by kernel_rfl)
theorem Zbr_cons : ∀ f site c,(Zbr_C).con f site=some c→c.Holds Tryd.prog (Zbr_C).glob f:=by
 intro f site c h
 unfold Zbr_C at h
 dsimp only at h
 split at h
 ·cases h; exact Zbl_holds
 ·cases h; exact Zbu_holds
 ·cases h; exact Zbs_holds
 ·cases h
theorem Zbr_holds : Con.Holds Tryd.prog glob 22 Zbr_c :=
 fn_holds (C:=Zbr_C) (A:=Zbr_As) (outs:=[(.cell 6 25,false,(.prod I (.prod (.slice (.prod I (.prod I .unit))) (.prod (.slice (.slice I)) .unit)))),(.tmp 7,false,(.slice I)),(.tmp 8,true,I),(.tmp 9,true,I)]) seat_ok Zbr_cons (by kernel_rfl) (by kernel_rfl) Zbr_loops (by kernel_rfl) (by kernel_rfl) Zbr_eq
def Zl_P : List (LoopPf Zl_C Zl_As (bodyOf Tryd.f24)):=[⟨4,Zl_A4,Zl_B4,rfl,Zl_R4⟩]
theorem Zl_loops : LoopsOK Zl_C Zl_As (loopsIn (bodyOf Tryd.f24)):=loops_ok Zl_P (by kernel_rfl) (by kernel_rfl)
theorem Zl_cons : ∀ f site c,(Zl_C).con f site=some c→c.Holds Tryd.prog (Zl_C).glob f:=by
 intro f site c h; cases h
theorem Zl_holds : Con.Holds Tryd.prog glob 24 Zl_c :=
 fn_holds (C:=Zl_C) (A:=Zl_As) (outs:=[(.tmp 4,true,.bool)]) seat_ok Zl_cons (by kernel_rfl) (by kernel_rfl) Zl_loops (by kernel_rfl) (by kernel_rfl) Zl_eq
def Zaf_P : List (LoopPf Zaf_C Zaf_As (bodyOf Tryd.f54)):=[⟨3,Zaf_A3,Zaf_B3,rfl,Zaf_R3⟩]
theorem Zaf_loops : LoopsOK Zaf_C Zaf_As (loopsIn (bodyOf Tryd.f54)):=loops_ok Zaf_P (by kernel_rfl) (by kernel_rfl)
theorem Zaf_cons : ∀ f site c,(Zaf_C).con f site=some c→c.Holds Tryd.prog (Zaf_C).glob f:=by
 intro f site c h; cases h
theorem Zaf_holds : Con.Holds Tryd.prog glob 54 Zaf_c :=
 fn_holds (C:=Zaf_C) (A:=Zaf_As) (outs:=[(.tmp 2,true,(.slice I))]) seat_ok Zaf_cons (by kernel_rfl) (by kernel_rfl) Zaf_loops (by kernel_rfl) (by kernel_rfl) Zaf_eq
def Zx_P : List (LoopPf Zx_C Zx_As (bodyOf Tryd.f26)):=[⟨4,Zx_A4,Zx_B4,rfl,Zx_R4⟩,⟨13,Zx_A13,Zx_B13,rfl,Zx_R13⟩,⟨16,Zx_A16,Zx_B16,rfl,Zx_R16⟩]
theorem Zx_loops : LoopsOK Zx_C Zx_As (loopsIn (bodyOf Tryd.f26)):=loops_ok Zx_P (by kernel_rfl) (by kernel_rfl)
theorem Zx_cons : ∀ f site c,(Zx_C).con f site=some c→c.Holds Tryd.prog (Zx_C).glob f:=by
 intro f site c h
 unfold Zx_C at h
 dsimp only at h
 split at h
 ·cases h; exact Zaf_holds
 ·cases h
theorem Zx_holds : Con.Holds Tryd.prog glob 26 Zx_c :=
 fn_holds (C:=Zx_C) (A:=Zx_As) (outs:=[(.tmp 2,true,.bool)]) seat_ok Zx_cons (by kernel_rfl) (by kernel_rfl) Zx_loops (by kernel_rfl) (by kernel_rfl) Zx_eq
def Zt_P : List (LoopPf Zt_C Zt_As (bodyOf Tryd.f47)):=[⟨3,Zt_A3,Zt_B3,rfl,Zt_R3⟩,⟨7,Zt_A7,Zt_B7,rfl,Zt_R7⟩]
theorem Zt_loops : LoopsOK Zt_C Zt_As (loopsIn (bodyOf Tryd.f47)):=loops_ok Zt_P (by kernel_rfl) (by kernel_rfl)
theorem Zt_cons : ∀ f site c,(Zt_C).con f site=some c→c.Holds Tryd.prog (Zt_C).glob f:=by
 intro f site c h; cases h
theorem Zt_holds : Con.Holds Tryd.prog glob 47 Zt_c :=
 fn_holds (C:=Zt_C) (A:=Zt_As) (outs:=[(.tmp 2,true,(.slice I))]) seat_ok Zt_cons (by kernel_rfl) (by kernel_rfl) Zt_loops (by kernel_rfl) (by kernel_rfl) Zt_eq
def Zab_P : List (LoopPf Zab_C Zab_As (bodyOf Tryd.f48)):=[]
theorem Zab_loops : LoopsOK Zab_C Zab_As (loopsIn (bodyOf Tryd.f48)):=loops_ok Zab_P (by kernel_rfl) (by kernel_rfl)
theorem Zab_cons : ∀ f site c,(Zab_C).con f site=some c→c.Holds Tryd.prog (Zab_C).glob f:=by
 intro f site c h; cases h
theorem Zab_holds : Con.Holds Tryd.prog glob 48 Zab_c :=
 fn_holds (C:=Zab_C) (A:=Zab_As) (outs:=[(.tmp 2,true,I)]) seat_ok Zab_cons (by kernel_rfl) (by kernel_rfl) Zab_loops (by kernel_rfl) (by kernel_rfl) Zab_eq
def Zah_P : List (LoopPf Zah_C Zah_As (bodyOf Tryd.f20)):=[⟨7,Zah_A7,Zah_B7,rfl,Zah_R7⟩,⟨12,Zah_A12,Zah_B12,rfl,Zah_R12⟩]
theorem Zah_loops : LoopsOK Zah_C Zah_As (loopsIn (bodyOf Tryd.f20)):=loops_ok Zah_P (by kernel_rfl) (by kernel_rfl)
theorem Zah_cons : ∀ f site c,(Zah_C).con f site=some c→c.Holds Tryd.prog (Zah_C).glob f:=by
 intro f site c h
 unfold Zah_C at h
 dsimp only at h
 split at h
 ·cases h; exact Zx_holds
 ·cases h; exact Zt_holds
 ·cases h; exact Zab_holds
 ·cases h
theorem Zah_holds : Con.Holds Tryd.prog glob 20 Zah_c :=
 fn_holds (C:=Zah_C) (A:=Zah_As) (outs:=[(.tmp 2,true,(.slice (.slice I)))]) seat_ok Zah_cons (by kernel_rfl) (by kernel_rfl) Zah_loops (by kernel_rfl) (by kernel_rfl) Zah_eq
def Zaq_P : List (LoopPf Zaq_C Zaq_As (bodyOf Tryd.f67)):=[⟨1,Zaq_A1,Zaq_B1,rfl,Zaq_R1⟩]
theorem Zaq_loops : LoopsOK Zaq_C Zaq_As (loopsIn (bodyOf Tryd.f67)):=loops_ok Zaq_P (by kernel_rfl) (by kernel_rfl)
theorem Zaq_cons : ∀ f site c,(Zaq_C).con f site=some c→c.Holds Tryd.prog (Zaq_C).glob f:=by
 intro f site c h; cases h
theorem Zaq_holds : Con.Holds Tryd.prog glob 67 Zaq_c :=
 fn_holds (C:=Zaq_C) (A:=Zaq_As) (outs:=[(.tmp 4,true,I)]) seat_ok Zaq_cons (by kernel_rfl) (by kernel_rfl) Zaq_loops (by kernel_rfl) (by kernel_rfl) Zaq_eq
def Zj_P : List (LoopPf Zj_C Zj_As (bodyOf Tryd.f49)):=[⟨3,Zj_A3,Zj_B3,rfl,Zj_R3⟩,⟨8,Zj_A8,Zj_B8,rfl,Zj_R8⟩]
theorem Zj_loops : LoopsOK Zj_C Zj_As (loopsIn (bodyOf Tryd.f49)):=loops_ok Zj_P (by kernel_rfl) (by kernel_rfl)
theorem Zj_cons : ∀ f site c,(Zj_C).con f site=some c→c.Holds Tryd.prog (Zj_C).glob f:=by
 intro f site c h
 unfold Zj_C at h
 dsimp only at h
 split at h
 ·cases h; exact Zaq_holds
 ·cases h
theorem Zj_holds : Con.Holds Tryd.prog glob 49 Zj_c :=
 fn_holds (C:=Zj_C) (A:=Zj_As) (outs:=[(.tmp 2,true,I)]) seat_ok Zj_cons (by kernel_rfl) (by kernel_rfl) Zj_loops (by kernel_rfl) (by kernel_rfl) Zj_eq
def Zag_P : List (LoopPf Zag_C Zag_As (bodyOf Tryd.f21)):=[⟨5,Zag_A5,Zag_B5,rfl,Zag_R5⟩]
theorem Zag_loops : LoopsOK Zag_C Zag_As (loopsIn (bodyOf Tryd.f21)):=loops_ok Zag_P (by kernel_rfl) (by kernel_rfl)
theorem Zag_cons : ∀ f site c,(Zag_C).con f site=some c→c.Holds Tryd.prog (Zag_C).glob f:=by
 intro f site c h
 unfold Zag_C at h
 dsimp only at h
 split at h
 ·cases h; exact Zah_holds
 ·cases h; exact Zx_holds
 ·cases h; exact Zj_holds
 ·cases h
theorem Zag_holds : Con.Holds Tryd.prog glob 21 Zag_c :=
 fn_holds (C:=Zag_C) (A:=Zag_As) (outs:=[(.tmp 2,true,I)]) seat_ok Zag_cons (by kernel_rfl) (by kernel_rfl) Zag_loops (by kernel_rfl) (by kernel_rfl) Zag_eq
def Zz_P : List (LoopPf Zz_C Zz_As (bodyOf Tryd.f13)):=[]
theorem Zz_loops : LoopsOK Zz_C Zz_As (loopsIn (bodyOf Tryd.f13)):=loops_ok Zz_P (by kernel_rfl) (by kernel_rfl)
theorem Zz_cons : ∀ f site c,(Zz_C).con f site=some c→c.Holds Tryd.prog (Zz_C).glob f:=by
 intro f site c h
 unfold Zz_C at h
 dsimp only at h
 split at h
 ·cases h; exact Zbq_holds
 ·cases h; exact Zbl_holds
 ·cases h; exact Zah_holds
 ·cases h; exact Zag_holds
 ·cases h; exact Zbr_holds
 ·cases h; exact Zl_holds
 ·cases h; exact Zx_holds
 ·cases h; exact Zs_holds
 ·cases h
theorem Zz_holds : Con.Holds Tryd.prog glob 13 Zz_c :=
 fn_holds (C:=Zz_C) (A:=Zz_As) (outs:=[(.tmp 0,true,.bool)]) seat_ok Zz_cons (by kernel_rfl) (by kernel_rfl) Zz_loops (by kernel_rfl) (by kernel_rfl) Zz_eq
def Zy_P : List (LoopPf Zy_C Zy_As (bodyOf Tryd.f101)):=[]
theorem Zy_loops : LoopsOK Zy_C Zy_As (loopsIn (bodyOf Tryd.f101)):=loops_ok Zy_P (by kernel_rfl) (by kernel_rfl)
theorem Zy_cons : ∀ f site c,(Zy_C).con f site=some c→c.Holds Tryd.prog (Zy_C).glob f:=by
 intro f site c h
 unfold Zy_C at h
 dsimp only at h
 split at h
 ·cases h; exact Zag_holds
 ·cases h; exact Zj_holds
 ·cases h
theorem Zy_holds : Con.Holds Tryd.prog glob 101 Zy_c :=
 fn_holds (C:=Zy_C) (A:=Zy_As) (outs:=[(.tmp 2,true,I)]) seat_ok Zy_cons (by kernel_rfl) (by kernel_rfl) Zy_loops (by kernel_rfl) (by kernel_rfl) Zy_eq
def Zaa_P : List (LoopPf Zaa_C Zaa_As (bodyOf Tryd.f102)):=[⟨4,Zaa_A4,Zaa_B4,rfl,Zaa_R4⟩,⟨7,Zaa_A7,Zaa_B7,rfl,Zaa_R7⟩]
theorem Zaa_loops : LoopsOK Zaa_C Zaa_As (loopsIn (bodyOf Tryd.f102)):=loops_ok Zaa_P (by kernel_rfl) (by kernel_rfl)
theorem Zaa_cons : ∀ f site c,(Zaa_C).con f site=some c→c.Holds Tryd.prog (Zaa_C).glob f:=by
 intro f site c h
 unfold Zaa_C at h
 dsimp only at h
 split at h
 ·cases h; exact Zah_holds
 ·cases h
theorem Zaa_holds : Con.Holds Tryd.prog glob 102 Zaa_c :=
 fn_holds (C:=Zaa_C) (A:=Zaa_As) (outs:=[(.tmp 2,true,(.slice I))]) seat_ok Zaa_cons (by kernel_rfl) (by kernel_rfl) Zaa_loops (by kernel_rfl) (by kernel_rfl) Zaa_eq
def Zai_P : List (LoopPf Zai_C Zai_As (bodyOf Tryd.f82)):=[⟨7,Zai_A7,Zai_B7,rfl,Zai_R7⟩]
theorem Zai_loops : LoopsOK Zai_C Zai_As (loopsIn (bodyOf Tryd.f82)):=loops_ok Zai_P (by kernel_rfl) (by kernel_rfl)
theorem Zai_cons : ∀ f site c,(Zai_C).con f site=some c→c.Holds Tryd.prog (Zai_C).glob f:=by
 intro f site c h
 unfold Zai_C at h
 dsimp only at h
 split at h
 ·cases h; exact Zah_holds
 ·cases h; exact Zy_holds
 ·cases h; exact Zaa_holds
 ·cases h
theorem Zai_holds : Con.Holds Tryd.prog glob 82 Zai_c :=
 fn_holds (C:=Zai_C) (A:=Zai_As) (outs:=[(.cell 2 83,true,(.prod I (.prod (.slice (.prod I (.prod I .unit))) .unit))),(.tmp 3,true,I)]) seat_ok Zai_cons (by kernel_rfl) (by kernel_rfl) Zai_loops (by kernel_rfl) (by kernel_rfl) Zai_eq
def Zv_P : List (LoopPf Zv_C Zv_As (bodyOf Tryd.f83)):=[⟨5,Zv_A5,Zv_B5,rfl,Zv_R5⟩]
theorem Zv_loops : LoopsOK Zv_C Zv_As (loopsIn (bodyOf Tryd.f83)):=loops_ok Zv_P (by kernel_rfl) (by kernel_rfl)
theorem Zv_cons : ∀ f site c,(Zv_C).con f site=some c→c.Holds Tryd.prog (Zv_C).glob f:=by
 intro f site c h
 unfold Zv_C at h
 dsimp only at h
 split at h
 ·cases h; exact Zaa_holds
 ·cases h
theorem Zv_holds : Con.Holds Tryd.prog glob 83 Zv_c :=
 fn_holds (C:=Zv_C) (A:=Zv_As) (outs:=[(.tmp 6,true,(.slice .bool))]) seat_ok Zv_cons (by kernel_rfl) (by kernel_rfl) Zv_loops (by kernel_rfl) (by kernel_rfl) Zv_eq
def Zau_P : List (LoopPf Zau_C Zau_As (bodyOf Tryd.f84)):=[⟨3,Zau_A3,Zau_B3,rfl,Zau_R3⟩,⟨9,Zau_A9,Zau_B9,rfl,Zau_R9⟩,⟨12,Zau_A12,Zau_B12,rfl,Zau_R12⟩]
theorem Zau_loops : LoopsOK Zau_C Zau_As (loopsIn (bodyOf Tryd.f84)):=loops_ok Zau_P (by kernel_rfl) (by kernel_rfl)
theorem Zau_cons : ∀ f site c,(Zau_C).con f site=some c→c.Holds Tryd.prog (Zau_C).glob f:=by
 intro f site c h; cases h
theorem Zau_holds : Con.Holds Tryd.prog glob 84 Zau_c :=
 fn_holds (C:=Zau_C) (A:=Zau_As) (outs:=[(.tmp 4,true,(.slice I))]) seat_ok Zau_cons (by kernel_rfl) (by kernel_rfl) Zau_loops (by kernel_rfl) (by kernel_rfl) Zau_eq
def Zac_P : List (LoopPf Zac_C Zac_As (bodyOf Tryd.f52)):=[⟨13,Zac_A13,Zac_B13,rfl,Zac_R13⟩,⟨17,Zac_A17,Zac_B17,rfl,Zac_R17⟩,⟨21,Zac_A21,Zac_B21,rfl,Zac_R21⟩]
theorem Zac_loops : LoopsOK Zac_C Zac_As (loopsIn (bodyOf Tryd.f52)):=loops_ok Zac_P (by kernel_rfl) (by kernel_rfl)
theorem Zac_cons : ∀ f site c,(Zac_C).con f site=some c→c.Holds Tryd.prog (Zac_C).glob f:=by
 intro f site c h
 unfold Zac_C at h
 dsimp only at h
 split at h
 ·cases h; exact Zai_holds
 ·cases h; exact Zv_holds
 ·cases h; exact Zau_holds
 ·cases h
theorem Zac_holds : Con.Holds Tryd.prog glob 52 Zac_c :=
 fn_holds (C:=Zac_C) (A:=Zac_As) (outs:=[(.tmp 6,true,(.slice I)),(.tmp 7,true,I)]) seat_ok Zac_cons (by kernel_rfl) (by kernel_rfl) Zac_loops (by kernel_rfl) (by kernel_rfl) Zac_eq
def Zw_P : List (LoopPf Zw_C Zw_As (bodyOf Tryd.f19)):=[⟨16,Zw_A16,Zw_B16,rfl,Zw_R16⟩]
def Zam_P : List (LoopPf Zam_C Zam_As (bodyOf Tryd.f28)):=[]
theorem Zam_loops : LoopsOK Zam_C Zam_As (loopsIn (bodyOf Tryd.f28)):=loops_ok Zam_P (by kernel_rfl) (by kernel_rfl)
theorem Zam_cons : ∀ f site c,(Zam_C).con f site=some c→c.Holds Tryd.prog (Zam_C).glob f:=by
 intro f site c h
 unfold Zam_C at h
 dsimp only at h
 split at h
 ·cases h; exact Zx_holds
 ·cases h; exact Zaf_holds
 ·cases h
theorem Zam_holds : Con.Holds Tryd.prog glob 28 Zam_c :=
 fn_holds (C:=Zam_C) (A:=Zam_As) (outs:=[(.tmp 4,true,I)]) seat_ok Zam_cons (by kernel_rfl) (by kernel_rfl) Zam_loops (by kernel_rfl) (by kernel_rfl) Zam_eq
def Zap_P : List (LoopPf Zap_C Zap_As (bodyOf Tryd.f66)):=[]
def Zp_P : List (LoopPf Zp_C Zp_As (bodyOf Tryd.f43)):=[⟨2,Zp_A2,Zp_B2,rfl,Zp_R2⟩]
def Zar_P : List (LoopPf Zar_C Zar_As (bodyOf Tryd.f53)):=[⟨2,Zar_A2,Zar_B2,rfl,Zar_R2⟩,⟨6,Zar_A6,Zar_B6,rfl,Zar_R6⟩]
def Zr_P : List (LoopPf Zr_C Zr_As (bodyOf Tryd.f44)):=[⟨3,Zr_A3,Zr_B3,rfl,Zr_R3⟩]
def Zak_P : List (LoopPf Zak_C Zak_As (bodyOf Tryd.f15)):=[]
def Zal_P : List (LoopPf Zal_C Zal_As (bodyOf Tryd.f23)):=[⟨9,Zal_A9,Zal_B9,rfl,Zal_R9⟩,⟨19,Zal_A19,Zal_B19,rfl,Zal_R19⟩]
def Zq_P : List (LoopPf Zq_C Zq_As (bodyOf Tryd.f45)):=[⟨4,Zq_A4,Zq_B4,rfl,Zq_R4⟩,⟨8,Zq_A8,Zq_B8,rfl,Zq_R8⟩]
def Zao_P : List (LoopPf Zao_C Zao_As (bodyOf Tryd.f16)):=[⟨4,Zao_A4,Zao_B4,rfl,Zao_R4⟩,⟨9,Zao_A9,Zao_B9,rfl,Zao_R9⟩]
def Zaj_P : List (LoopPf Zaj_C Zaj_As (bodyOf Tryd.f17)):=[]
def Zi_P : List (LoopPf Zi_C Zi_As (bodyOf Tryd.f5)):=[]
def Zk_P : List (LoopPf Zk_C Zk_As (bodyOf Tryd.f27)):=[]
theorem Zk_loops : LoopsOK Zk_C Zk_As (loopsIn (bodyOf Tryd.f27)):=loops_ok Zk_P (by kernel_rfl) (by kernel_rfl)
theorem Zk_cons : ∀ f site c,(Zk_C).con f site=some c→c.Holds Tryd.prog (Zk_C).glob f:=by
 intro f site c h
 unfold Zk_C at h
 dsimp only at h
 split at h
 ·cases h; exact Zac_holds
 ·cases h
theorem Zk_holds : Con.Holds Tryd.prog glob 27 Zk_c :=
 fn_holds (C:=Zk_C) (A:=Zk_As) (outs:=[(.tmp 6,true,I),(.tmp 7,true,I)]) seat_ok Zk_cons (by kernel_rfl) (by kernel_rfl) Zk_loops (by kernel_rfl) (by kernel_rfl) Zk_eq
def Zax_P : List (LoopPf Zax_C Zax_As (bodyOf Tryd.f55)):=[⟨2,Zax_A2,Zax_B2,rfl,Zax_R2⟩]
theorem Zax_loops : LoopsOK Zax_C Zax_As (loopsIn (bodyOf Tryd.f55)):=loops_ok Zax_P (by kernel_rfl) (by kernel_rfl)
theorem Zax_cons : ∀ f site c,(Zax_C).con f site=some c→c.Holds Tryd.prog (Zax_C).glob f:=by
 intro f site c h; cases h
theorem Zax_holds : Con.Holds Tryd.prog glob 55 Zax_c :=
 fn_holds (C:=Zax_C) (A:=Zax_As) (outs:=[(.tmp 4,true,.bool)]) seat_ok Zax_cons (by kernel_rfl) (by kernel_rfl) Zax_loops (by kernel_rfl) (by kernel_rfl) Zax_eq
def Zo_P : List (LoopPf Zo_C Zo_As (bodyOf Tryd.f29)):=[⟨6,Zo_A6,Zo_B6,rfl,Zo_R6⟩]
theorem Zo_loops : LoopsOK Zo_C Zo_As (loopsIn (bodyOf Tryd.f29)):=loops_ok Zo_P (by kernel_rfl) (by kernel_rfl)
theorem Zo_cons : ∀ f site c,(Zo_C).con f site=some c→c.Holds Tryd.prog (Zo_C).glob f:=by
 intro f site c h
 unfold Zo_C at h
 dsimp only at h
 split at h
 ·cases h; exact Zax_holds
 ·cases h
theorem Zo_holds : Con.Holds Tryd.prog glob 29 Zo_c :=
 fn_holds (C:=Zo_C) (A:=Zo_As) (outs:=[(.tmp 6,true,.bool)]) seat_ok Zo_cons (by kernel_rfl) (by kernel_rfl) Zo_loops (by kernel_rfl) (by kernel_rfl) Zo_eq
def Zh_P : List (LoopPf Zh_C Zh_As (bodyOf Tryd.f7)):=[⟨11,Zh_A11,Zh_B11,rfl,Zh_R11⟩]
theorem Zh_loops : LoopsOK Zh_C Zh_As (loopsIn (bodyOf Tryd.f7)):=loops_ok Zh_P (by kernel_rfl) (by kernel_rfl)
theorem Zh_cons : ∀ f site c,(Zh_C).con f site=some c→c.Holds Tryd.prog (Zh_C).glob f:=by
 intro f site c h
 unfold Zh_C at h
 dsimp only at h
 split at h
 ·cases h; exact Zad_holds
 ·cases h; exact Zz_holds
 ·cases h; exact Zag_holds
 ·cases h; exact Zbr_holds
 ·cases h; exact Zx_holds
 ·cases h; exact Zk_holds
 ·cases h; exact Zam_holds
 ·cases h; exact Zo_holds
 ·cases h
theorem Zh_holds : Con.Holds Tryd.prog glob 7 Zh_c :=
 fn_holds (C:=Zh_C) (A:=Zh_As) (outs:=[(.tmp 6,true,.bool)]) seat_ok Zh_cons (by kernel_rfl) (by kernel_rfl) Zh_loops (by kernel_rfl) (by kernel_rfl) Zh_eq
end
end Go.Vm
