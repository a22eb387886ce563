/-
 Contracts of the functions that the law reaches.
-/
import Derived.Test.YtpgfkljmcacegaaDoorD42
import Derived.Test.YtpgfkljmcacegaaDoorVmD
set_option linter.unusedVariables false
set_option linter.unusedSimpArgs false
namespace Go.Vm
open Go.Proofs
noncomputable section
set_option maxRecDepth 100000
theorem seat_ok : SeatOK Tryd.prog tab eqs:=⟨by kernel_rfl,by kernel_rfl,by kernel_rfl⟩
def Zad_P : List (LoopPf Zad_C Zad_As (bodyOf Tryd.f8)):=[⟨4,Zad_A4,Zad_B4,rfl,Zad_R4⟩]
theorem Zad_loops : LoopsOK Zad_C Zad_As (loopsIn (bodyOf Tryd.f8)):=loops_ok Zad_P (by kernel_rfl) (by kernel_rfl)
theorem Zad_cons : ∀ f site c,(Zad_C).con f site=some c→c.Holds Tryd.prog (Zad_C).glob f:=by
 intro f site c h; cases h
theorem Zad_holds : Con.Holds Tryd.prog glob 8 Zad_c :=
 fn_holds (C:=Zad_C) (A:=Zad_As) (outs:=[(.tmp 2,true,.bool)]) seat_ok Zad_cons (by kernel_rfl) (by kernel_rfl) Zad_loops (by kernel_rfl) (by kernel_rfl) Zad_eq
def Zr_P : List (LoopPf Zr_C Zr_As (bodyOf Tryd.f21)):=[]
theorem Zr_loops : LoopsOK Zr_C Zr_As (loopsIn (bodyOf Tryd.f21)):=loops_ok Zr_P (by kernel_rfl) (by kernel_rfl)
theorem Zr_cons : ∀ f site c,(Zr_C).con f site=some c→c.Holds Tryd.prog (Zr_C).glob f:=by
 intro f site c h; cases h
theorem Zr_holds : Con.Holds Tryd.prog glob 21 Zr_c :=
 fn_holds (C:=Zr_C) (A:=Zr_As) (outs:=[(.cell 0 29,true,(.prod (.prod I (.prod (.slice (.prod I (.prod I .unit))) (.prod (.slice (.slice I)) .unit))) (.prod (.slice I) (.prod (.slice .str) (.prod I .unit)))))]) seat_ok Zr_cons (by kernel_rfl) (by kernel_rfl) Zr_loops (by kernel_rfl) (by kernel_rfl) Zr_eq
def Zbr_P : List (LoopPf Zbr_C Zbr_As (bodyOf Tryd.f51)):=[]
theorem Zbr_loops : LoopsOK Zbr_C Zbr_As (loopsIn (bodyOf Tryd.f51)):=loops_ok Zbr_P (by kernel_rfl) (by kernel_rfl)
theorem Zbr_cons : ∀ f site c,(Zbr_C).con f site=some c→c.Holds Tryd.prog (Zbr_C).glob f:=by
 intro f site c h; cases h
theorem Zbr_holds : Con.Holds Tryd.prog glob 51 Zbr_c :=
 fn_holds (C:=Zbr_C) (A:=Zbr_As) (outs:=[(.tmp 4,true,I)]) seat_ok Zbr_cons (by kernel_rfl) (by kernel_rfl) Zbr_loops (by kernel_rfl) (by kernel_rfl) Zbr_eq
def Zbh_P : List (LoopPf Zbh_C Zbh_As (bodyOf Tryd.f50)):=[⟨4,Zbh_A4,Zbh_B4,rfl,Zbh_R4⟩,⟨12,Zbh_A12,Zbh_B12,rfl,Zbh_R12⟩,⟨15,Zbh_A15,Zbh_B15,rfl,Zbh_R15⟩]
theorem Zbh_loops : LoopsOK Zbh_C Zbh_As (loopsIn (bodyOf Tryd.f50)):=loops_ok Zbh_P (by kernel_rfl) (by kernel_rfl)
theorem Zbh_cons : ∀ f site c,(Zbh_C).con f site=some c→c.Holds Tryd.prog (Zbh_C).glob f:=by
 intro f site c h
 unfold Zbh_C at h
 dsimp only at h
 split at h
 ·cases h; exact Zbr_holds
 ·cases h
theorem Zbh_holds : Con.Holds Tryd.prog glob 50 Zbh_c :=
 fn_holds (C:=Zbh_C) (A:=Zbh_As) (outs:=[(.tmp 2,true,.bool)]) seat_ok Zbh_cons (by kernel_rfl) (by kernel_rfl) Zbh_loops (by kernel_rfl) (by kernel_rfl) Zbh_eq
def Zbm_P : List (LoopPf Zbm_C Zbm_As (bodyOf Tryd.f31)):=[]
theorem Zbm_loops : LoopsOK Zbm_C Zbm_As (loopsIn (bodyOf Tryd.f31)):=loops_ok Zbm_P (by kernel_rfl) (by kernel_rfl)
theorem Zbm_cons : ∀ f site c,(Zbm_C).con f site=some c→c.Holds Tryd.prog (Zbm_C).glob f:=by
 intro f site c h
 unfold Zbm_C at h
 dsimp only at h
 split at h
 ·cases h; exact Zbh_holds
 ·cases h; exact Zbr_holds
 ·cases h
theorem Zbm_holds : Con.Holds Tryd.prog glob 31 Zbm_c :=
 fn_holds (C:=Zbm_C) (A:=Zbm_As) (outs:=[(.tmp 4,true,I)]) seat_ok Zbm_cons (by kernel_rfl) (by kernel_rfl) Zbm_loops (by kernel_rfl) (by kernel_rfl) Zbm_eq
def Zbf_P : List (LoopPf Zbf_C Zbf_As (bodyOf Tryd.f74)):=[⟨6,Zbf_A6,Zbf_B6,rfl,Zbf_R6⟩,⟨11,Zbf_A11,Zbf_B11,rfl,Zbf_R11⟩]
theorem Zbf_loops : LoopsOK Zbf_C Zbf_As (loopsIn (bodyOf Tryd.f74)):=loops_ok Zbf_P (by kernel_rfl) (by kernel_rfl)
theorem Zbf_cons : ∀ f site c,(Zbf_C).con f site=some c→c.Holds Tryd.prog (Zbf_C).glob f:=by
 intro f site c h
 unfold Zbf_C at h
 dsimp only at h
 split at h
 ·cases h; exact Zbm_holds
 ·cases h
theorem Zbf_holds : Con.Holds Tryd.prog glob 74 Zbf_c :=
 fn_holds (C:=Zbf_C) (A:=Zbf_As) (outs:=[(.tmp 2,true,.bool)]) seat_ok Zbf_cons (by kernel_rfl) (by kernel_rfl) Zbf_loops (by kernel_rfl) (by kernel_rfl) Zbf_eq
def Zbc_P : List (LoopPf Zbc_C Zbc_As (bodyOf Tryd.f65)):=[⟨3,Zbc_A3,Zbc_B3,rfl,Zbc_R3⟩,⟨6,Zbc_A6,Zbc_B6,rfl,Zbc_R6⟩]
theorem Zbc_loops : LoopsOK Zbc_C Zbc_As (loopsIn (bodyOf Tryd.f65)):=loops_ok Zbc_P (by kernel_rfl) (by kernel_rfl)
theorem Zbc_cons : ∀ f site c,(Zbc_C).con f site=some c→c.Holds Tryd.prog (Zbc_C).glob f:=by
 intro f site c h; cases h
theorem Zbc_holds : Con.Holds Tryd.prog glob 65 Zbc_c :=
 fn_holds (C:=Zbc_C) (A:=Zbc_As) (outs:=[(.tmp 2,true,(.slice I))]) seat_ok Zbc_cons (by kernel_rfl) (by kernel_rfl) Zbc_loops (by kernel_rfl) (by kernel_rfl) Zbc_eq
def Zbi_P : List (LoopPf Zbi_C Zbi_As (bodyOf Tryd.f48)):=[⟨7,Zbi_A7,Zbi_B7,rfl,Zbi_R7⟩,⟨11,Zbi_A11,Zbi_B11,rfl,Zbi_R11⟩]
theorem Zbi_loops : LoopsOK Zbi_C Zbi_As (loopsIn (bodyOf Tryd.f48)):=loops_ok Zbi_P (by kernel_rfl) (by kernel_rfl)
theorem Zbi_cons : ∀ f site c,(Zbi_C).con f site=some c→c.Holds Tryd.prog (Zbi_C).glob f:=by
 intro f site c h
 unfold Zbi_C at h
 dsimp only at h
 split at h
 ·cases h; exact Zbh_holds
 ·cases h; exact Zbc_holds
 ·cases h
theorem Zbi_holds : Con.Holds Tryd.prog glob 48 Zbi_c :=
 fn_holds (C:=Zbi_C) (A:=Zbi_As) (outs:=[(.tmp 2,true,(.slice (.slice I)))]) seat_ok Zbi_cons (by kernel_rfl) (by kernel_rfl) Zbi_loops (by kernel_rfl) (by kernel_rfl) Zbi_eq
def Zn_P : List (LoopPf Zn_C Zn_As (bodyOf Tryd.f84)):=[⟨4,Zn_A4,Zn_B4,rfl,Zn_R4⟩,⟨10,Zn_A10,Zn_B10,rfl,Zn_R10⟩,⟨13,Zn_A13,Zn_B13,rfl,Zn_R13⟩]
theorem Zn_loops : LoopsOK Zn_C Zn_As (loopsIn (bodyOf Tryd.f84)):=loops_ok Zn_P (by kernel_rfl) (by kernel_rfl)
theorem Zn_cons : ∀ f site c,(Zn_C).con f site=some c→c.Holds Tryd.prog (Zn_C).glob f:=by
 intro f site c h
 unfold Zn_C at h
 dsimp only at h
 split at h
 ·cases h; exact Zbr_holds
 ·cases h
theorem Zn_holds : Con.Holds Tryd.prog glob 84 Zn_c :=
 fn_holds (C:=Zn_C) (A:=Zn_As) (outs:=[(.tmp 2,true,I)]) seat_ok Zn_cons (by kernel_rfl) (by kernel_rfl) Zn_loops (by kernel_rfl) (by kernel_rfl) Zn_eq
def Zbg_P : List (LoopPf Zbg_C Zbg_As (bodyOf Tryd.f75)):=[⟨5,Zbg_A5,Zbg_B5,rfl,Zbg_R5⟩]
theorem Zbg_loops : LoopsOK Zbg_C Zbg_As (loopsIn (bodyOf Tryd.f75)):=loops_ok Zbg_P (by kernel_rfl) (by kernel_rfl)
theorem Zbg_cons : ∀ f site c,(Zbg_C).con f site=some c→c.Holds Tryd.prog (Zbg_C).glob f:=by
 intro f site c h
 unfold Zbg_C at h
 dsimp only at h
 split at h
 ·cases h; exact Zbi_holds
 ·cases h; exact Zbh_holds
 ·cases h; exact Zn_holds
 ·cases h
theorem Zbg_holds : Con.Holds Tryd.prog glob 75 Zbg_c :=
 fn_holds (C:=Zbg_C) (A:=Zbg_As) (outs:=[(.tmp 2,true,I)]) seat_ok Zbg_cons (by kernel_rfl) (by kernel_rfl) Zbg_loops (by kernel_rfl) (by kernel_rfl) Zbg_eq
def Zbv_P : List (LoopPf Zbv_C Zbv_As (bodyOf Tryd.f76)):=[⟨2,Zbv_A2,Zbv_B2,rfl,Zbv_R2⟩,⟨6,Zbv_A6,Zbv_B6,rfl,Zbv_R6⟩]
theorem Zbv_loops : LoopsOK Zbv_C Zbv_As (loopsIn (bodyOf Tryd.f76)):=loops_ok Zbv_P (by kernel_rfl) (by kernel_rfl)
theorem Zbv_cons : ∀ f site c,(Zbv_C).con f site=some c→c.Holds Tryd.prog (Zbv_C).glob f:=by
 intro f site c h; cases h
theorem Zbv_holds : Con.Holds Tryd.prog glob 76 Zbv_c :=
 fn_holds (C:=Zbv_C) (A:=Zbv_As) (outs:=[(.tmp 2,true,.bool)]) seat_ok Zbv_cons (by kernel_rfl) (by kernel_rfl) Zbv_loops (by kernel_rfl) (by kernel_rfl) Zbv_eq
def Zbl_P : List (LoopPf Zbl_C Zbl_As (bodyOf Tryd.f85)):=[]
theorem Zbl_loops : LoopsOK Zbl_C Zbl_As (loopsIn (bodyOf Tryd.f85)):=loops_ok Zbl_P (by kernel_rfl) (by kernel_rfl)
theorem Zbl_cons : ∀ f site c,(Zbl_C).con f site=some c→c.Holds Tryd.prog (Zbl_C).glob f:=by
 intro f site c h; cases h
theorem Zbl_holds : Con.Holds Tryd.prog glob 85 Zbl_c :=
 fn_holds (C:=Zbl_C) (A:=Zbl_As) (outs:=[(.tmp 2,true,(.int .u8)),(.tmp 3,true,.bool)]) seat_ok Zbl_cons (by kernel_rfl) (by kernel_rfl) Zbl_loops (by kernel_rfl) (by kernel_rfl) Zbl_eq
def Zcb_P : List (LoopPf Zcb_C Zcb_As (bodyOf Tryd.f77)):=[⟨4,Zcb_A4,Zcb_B4,rfl,Zcb_R4⟩]
theorem Zcb_loops : LoopsOK Zcb_C Zcb_As (loopsIn (bodyOf Tryd.f77)):=loops_ok Zcb_P (by kernel_rfl) (by kernel_rfl)
theorem Zcb_cons : ∀ f site c,(Zcb_C).con f site=some c→c.Holds Tryd.prog (Zcb_C).glob f:=by
 intro f site c h
 unfold Zcb_C at h
 dsimp only at h
 split at h
 ·cases h; exact Zbl_holds
 ·cases h
theorem Zcb_holds : Con.Holds Tryd.prog glob 77 Zcb_c :=
 fn_holds (C:=Zcb_C) (A:=Zcb_As) (outs:=[(.tmp 2,true,.bool)]) seat_ok Zcb_cons (by kernel_rfl) (by kernel_rfl) Zcb_loops (by kernel_rfl) (by kernel_rfl) Zcb_eq
def Zm_P : List (LoopPf Zm_C Zm_As (bodyOf Tryd.f86)):=[⟨1,Zm_A1,Zm_B1,rfl,Zm_R1⟩]
theorem Zm_loops : LoopsOK Zm_C Zm_As (loopsIn (bodyOf Tryd.f86)):=loops_ok Zm_P (by kernel_rfl) (by kernel_rfl)
theorem Zm_cons : ∀ f site c,(Zm_C).con f site=some c→c.Holds Tryd.prog (Zm_C).glob f:=by
 intro f site c h; cases h
theorem Zm_holds : Con.Holds Tryd.prog glob 86 Zm_c :=
 fn_holds (C:=Zm_C) (A:=Zm_As) (outs:=[]) seat_ok Zm_cons (by kernel_rfl) (by kernel_rfl) Zm_loops (by kernel_rfl) (by kernel_rfl) Zm_eq
def Zbk_P : List (LoopPf Zbk_C Zbk_As (bodyOf Tryd.f78)):=[⟨4,Zbk_A4,Zbk_B4,rfl,Zbk_R4⟩]
theorem Zbk_loops : LoopsOK Zbk_C Zbk_As (loopsIn (bodyOf Tryd.f78)):=loops_ok Zbk_P (by kernel_rfl) (by kernel_rfl)
theorem Zbk_cons : ∀ f site c,(Zbk_C).con f site=some c→c.Holds Tryd.prog (Zbk_C).glob f:=by
 intro f site c h
 unfold Zbk_C at h
 dsimp only at h
 split at h
 ·cases h; exact Zbl_holds
 ·cases h; exact Zm_holds
 ·cases h
theorem Zbk_holds : Con.Holds Tryd.prog glob 78 Zbk_c :=
 fn_holds (C:=Zbk_C) (A:=Zbk_As) (outs:=[(.tmp 2,true,.str)]) seat_ok Zbk_cons (by kernel_rfl) (by kernel_rfl) Zbk_loops (by kernel_rfl) (by kernel_rfl) Zbk_eq
def Zap_P : List (LoopPf Zap_C Zap_As (bodyOf Tryd.f64)):=[⟨2,Zap_A2,Zap_B2,rfl,Zap_R2⟩]
theorem Zap_loops : LoopsOK Zap_C Zap_As (loopsIn (bodyOf Tryd.f64)):=loops_ok Zap_P (by kernel_rfl) (by kernel_rfl)
theorem Zap_cons : ∀ f site c,(Zap_C).con f site=some c→c.Holds Tryd.prog (Zap_C).glob f:=by
 intro f site c h; cases h
theorem Zap_holds : Con.Holds Tryd.prog glob 64 Zap_c :=
 fn_holds (C:=Zap_C) (A:=Zap_As) (outs:=[(.tmp 4,true,I)]) seat_ok Zap_cons (by kernel_rfl) (by kernel_rfl) Zap_loops (by kernel_rfl) (by kernel_rfl) Zap_eq
def Zl_P : List (LoopPf Zl_C Zl_As (bodyOf Tryd.f79)):=[]
theorem Zl_loops : LoopsOK Zl_C Zl_As (loopsIn (bodyOf Tryd.f79)):=loops_ok Zl_P (by kernel_rfl) (by kernel_rfl)
theorem Zl_cons : ∀ f site c,(Zl_C).con f site=some c→c.Holds Tryd.prog (Zl_C).glob f:=by
 intro f site c h
 unfold Zl_C at h
 dsimp only at h
 split at h
 ·cases h; exact Zap_holds
 ·cases h
theorem Zl_holds : Con.Holds Tryd.prog glob 79 Zl_c :=
 fn_holds (C:=Zl_C) (A:=Zl_As) (outs:=[(.tmp 4,true,.bool)]) seat_ok Zl_cons (by kernel_rfl) (by kernel_rfl) Zl_loops (by kernel_rfl) (by kernel_rfl) Zl_eq
def Zcc_P : List (LoopPf Zcc_C Zcc_As (bodyOf Tryd.f87)):=[⟨3,Zcc_A3,Zcc_B3,rfl,Zcc_R3⟩]
theorem Zcc_loops : LoopsOK Zcc_C Zcc_As (loopsIn (bodyOf Tryd.f87)):=loops_ok Zcc_P (by kernel_rfl) (by kernel_rfl)
theorem Zcc_cons : ∀ f site c,(Zcc_C).con f site=some c→c.Holds Tryd.prog (Zcc_C).glob f:=by
 intro f site c h; cases h
theorem Zcc_holds : Con.Holds Tryd.prog glob 87 Zcc_c :=
 fn_holds (C:=Zcc_C) (A:=Zcc_As) (outs:=[(.tmp 4,true,I)]) seat_ok Zcc_cons (by kernel_rfl) (by kernel_rfl) Zcc_loops (by kernel_rfl) (by kernel_rfl) Zcc_eq
def Zbz_P : List (LoopPf Zbz_C Zbz_As (bodyOf Tryd.f80)):=[⟨3,Zbz_A3,Zbz_B3,rfl,Zbz_R3⟩]
theorem Zbz_loops : LoopsOK Zbz_C Zbz_As (loopsIn (bodyOf Tryd.f80)):=loops_ok Zbz_P (by kernel_rfl) (by kernel_rfl)
theorem Zbz_cons : ∀ f site c,(Zbz_C).con f site=some c→c.Holds Tryd.prog (Zbz_C).glob f:=by
 intro f site c h
 unfold Zbz_C at h
 dsimp only at h
 split at h
 ·cases h; exact Zcc_holds
 ·cases h
theorem Zbz_holds : Con.Holds Tryd.prog glob 80 Zbz_c :=
 fn_holds (C:=Zbz_C) (A:=Zbz_As) (outs:=[(.tmp 4,true,I)]) seat_ok Zbz_cons (by kernel_rfl) (by kernel_rfl) Zbz_loops (by kernel_rfl) (by kernel_rfl) Zbz_eq
def Zbx_P : List (LoopPf Zbx_C Zbx_As (bodyOf Tryd.f63)):=[⟨8,Zbx_A8,Zbx_B8,rfl,Zbx_R8⟩,⟨13,Zbx_A13,Zbx_B13,rfl,Zbx_R13⟩]
theorem Zbx_loops : LoopsOK Zbx_C Zbx_As (loopsIn (bodyOf Tryd.f63)):=loops_ok Zbx_P (by kernel_rfl) (by kernel_rfl)
theorem Zbx_cons : ∀ f site c,(Zbx_C).con f site=some c→c.Holds Tryd.prog (Zbx_C).glob f:=by
 intro f site c h
 unfold Zbx_C at h
 dsimp only at h
 split at h
 ·cases h; exact Zbi_holds
 ·cases h; exact Zbh_holds
 ·cases h; exact Zbf_holds
 ·cases h; exact Zbg_holds
 ·cases h; exact Zbv_holds
 ·cases h; exact Zcb_holds
 ·cases h; exact Zbk_holds
 ·cases h; exact Zl_holds
 ·cases h; exact Zbz_holds
 ·cases h
theorem Zbx_holds : Con.Holds Tryd.prog glob 63 Zbx_c :=
 fn_holds (C:=Zbx_C) (A:=Zbx_As) (outs:=[(.tmp 2,true,.bool)]) seat_ok Zbx_cons (by kernel_rfl) (by kernel_rfl) Zbx_loops (by kernel_rfl) (by kernel_rfl) Zbx_eq
def Zby_P : List (LoopPf Zby_C Zby_As (bodyOf Tryd.f45)):=[]
theorem Zby_loops : LoopsOK Zby_C Zby_As (loopsIn (bodyOf Tryd.f45)):=loops_ok Zby_P (by kernel_rfl) (by kernel_rfl)
theorem Zby_cons : ∀ f site c,(Zby_C).con f site=some c→c.Holds Tryd.prog (Zby_C).glob f:=by
 intro f site c h
 unfold Zby_C at h
 dsimp only at h
 split at h
 ·cases h; exact Zbx_holds
 ·cases h
theorem Zby_holds : Con.Holds Tryd.prog glob 45 Zby_c :=
 fn_holds (C:=Zby_C) (A:=Zby_As) (outs:=[(.tmp 2,true,I)]) seat_ok Zby_cons (by kernel_rfl) (by kernel_rfl) Zby_loops (by kernel_rfl) (by kernel_rfl) Zby_eq
def Zbw_P : List (LoopPf Zbw_C Zbw_As (bodyOf Tryd.f46)):=[⟨5,Zbw_A5,Zbw_B5,rfl,Zbw_R5⟩]
theorem Zbw_loops : LoopsOK Zbw_C Zbw_As (loopsIn (bodyOf Tryd.f46)):=loops_ok Zbw_P (by kernel_rfl) (by kernel_rfl)
theorem Zbw_cons : ∀ f site c,(Zbw_C).con f site=some c→c.Holds Tryd.prog (Zbw_C).glob f:=by
 intro f site c h
 unfold Zbw_C at h
 dsimp only at h
 split at h
 ·cases h; exact Zbx_holds
 ·cases h
theorem Zbw_holds : Con.Holds Tryd.prog glob 46 Zbw_c :=
 fn_holds (C:=Zbw_C) (A:=Zbw_As) (outs:=[(.tmp 2,true,I)]) seat_ok Zbw_cons (by kernel_rfl) (by kernel_rfl) Zbw_loops (by kernel_rfl) (by kernel_rfl) Zbw_eq
def Zax_P : List (LoopPf Zax_C Zax_As (bodyOf Tryd.f22)):=[]
theorem Zax_loops : LoopsOK Zax_C Zax_As (loopsIn (bodyOf Tryd.f22)):=loops_ok Zax_P (by kernel_rfl) (by kernel_rfl)
theorem Zax_cons : ∀ f site c,(Zax_C).con f site=some c→c.Holds Tryd.prog (Zax_C).glob f:=by
 intro f site c h
 unfold Zax_C at h
 dsimp only at h
 split at h
 ·cases h; exact Zby_holds
 ·cases h; exact Zbw_holds
 ·cases h
theorem Zax_holds : Con.Holds Tryd.prog glob 22 Zax_c :=
 fn_holds (C:=Zax_C) (A:=Zax_As) (outs:=[(.tmp 2,true,.bool)]) seat_ok Zax_cons (by kernel_rfl) (by kernel_rfl) Zax_loops (by kernel_rfl) (by kernel_rfl) Zax_eq
def Zbn_P : List (LoopPf Zbn_C Zbn_As (bodyOf Tryd.f47)):=[]
theorem Zbn_loops : LoopsOK Zbn_C Zbn_As (loopsIn (bodyOf Tryd.f47)):=loops_ok Zbn_P (by kernel_rfl) (by kernel_rfl)
theorem Zbn_cons : ∀ f site c,(Zbn_C).con f site=some c→c.Holds Tryd.prog (Zbn_C).glob f:=by
 intro f site c h
 unfold Zbn_C at h
 dsimp only at h
 split at h
 ·cases h; exact Zbh_holds
 ·cases h; exact Zbr_holds
 ·cases h; exact Zap_holds
 ·cases h
theorem Zbn_holds : Con.Holds Tryd.prog glob 47 Zbn_c :=
 fn_holds (C:=Zbn_C) (A:=Zbn_As) (outs:=[(.tmp 4,true,I)]) seat_ok Zbn_cons (by kernel_rfl) (by kernel_rfl) Zbn_loops (by kernel_rfl) (by kernel_rfl) Zbn_eq
def Zay_P : List (LoopPf Zay_C Zay_As (bodyOf Tryd.f23)):=[⟨3,Zay_A3,Zay_B3,rfl,Zay_R3⟩,⟨11,Zay_A11,Zay_B11,rfl,Zay_R11⟩,⟨16,Zay_A16,Zay_B16,rfl,Zay_R16⟩]
theorem Zay_loops : LoopsOK Zay_C Zay_As (loopsIn (bodyOf Tryd.f23)):=loops_ok Zay_P (by kernel_rfl) (by kernel_rfl)
theorem Zay_cons : ∀ f site c,(Zay_C).con f site=some c→c.Holds Tryd.prog (Zay_C).glob f:=by
 intro f site c h
 unfold Zay_C at h
 dsimp only at h
 split at h
 ·cases h; exact Zbn_holds
 ·cases h
theorem Zay_holds : Con.Holds Tryd.prog glob 23 Zay_c :=
 fn_holds (C:=Zay_C) (A:=Zay_As) (outs:=[(.tmp 2,true,(.slice I))]) seat_ok Zay_cons (by kernel_rfl) (by kernel_rfl) Zay_loops (by kernel_rfl) (by kernel_rfl) Zay_eq
def Zu_P : List (LoopPf Zu_C Zu_As (bodyOf Tryd.f10)):=[]
theorem Zu_loops : LoopsOK Zu_C Zu_As (loopsIn (bodyOf Tryd.f10)):=loops_ok Zu_P (by kernel_rfl) (by kernel_rfl)
theorem Zu_cons : ∀ f site c,(Zu_C).con f site=some c→c.Holds Tryd.prog (Zu_C).glob f:=by
 intro f site c h
 unfold Zu_C at h
 dsimp only at h
 split at h
 ·cases h; exact Zax_holds
 ·cases h; exact Zay_holds
 ·cases h
theorem Zu_holds : Con.Holds Tryd.prog glob 10 Zu_c :=
 fn_holds (C:=Zu_C) (A:=Zu_As) (outs:=[(.tmp 2,true,(.slice I)),(.tmp 3,true,I)]) seat_ok Zu_cons (by kernel_rfl) (by kernel_rfl) Zu_loops (by kernel_rfl) (by kernel_rfl) Zu_eq
def Zp_P : List (LoopPf Zp_C Zp_As (bodyOf Tryd.f25)):=[⟨4,Zp_A4,Zp_B4,rfl,Zp_R4⟩,⟨8,Zp_A8,Zp_B8,rfl,Zp_R8⟩,⟨15,Zp_A15,Zp_B15,rfl,Zp_R15⟩]
theorem Zp_loops : LoopsOK Zp_C Zp_As (loopsIn (bodyOf Tryd.f25)):=loops_ok Zp_P (by kernel_rfl) (by kernel_rfl)
theorem Zp_cons : ∀ f site c,(Zp_C).con f site=some c→c.Holds Tryd.prog (Zp_C).glob f:=by
 intro f site c h
 unfold Zp_C at h
 dsimp only at h
 split at h
 ·cases h; exact Zbi_holds
 ·cases h
theorem Zp_holds : Con.Holds Tryd.prog glob 25 Zp_c :=
 fn_holds (C:=Zp_C) (A:=Zp_As) (outs:=[(.tmp 2,true,.bool)]) seat_ok Zp_cons (by kernel_rfl) (by kernel_rfl) Zp_loops (by kernel_rfl) (by kernel_rfl) Zp_eq
def Zbb_P : List (LoopPf Zbb_C Zbb_As (bodyOf Tryd.f27)):=[⟨3,Zbb_A3,Zbb_B3,rfl,Zbb_R3⟩,⟨8,Zbb_A8,Zbb_B8,rfl,Zbb_R8⟩,⟨11,Zbb_A11,Zbb_B11,rfl,Zbb_R11⟩]
theorem Zbb_loops : LoopsOK Zbb_C Zbb_As (loopsIn (bodyOf Tryd.f27)):=loops_ok Zbb_P (by kernel_rfl) (by kernel_rfl)
theorem Zbb_cons : ∀ f site c,(Zbb_C).con f site=some c→c.Holds Tryd.prog (Zbb_C).glob f:=by
 intro f site c h
 unfold Zbb_C at h
 dsimp only at h
 split at h
 ·cases h; exact Zbm_holds
 ·cases h
theorem Zbb_holds : Con.Holds Tryd.prog glob 27 Zbb_c :=
 fn_holds (C:=Zbb_C) (A:=Zbb_As) (outs:=[(.tmp 6,true,(.slice I))]) seat_ok Zbb_cons (by kernel_rfl) (by kernel_rfl) Zbb_loops (by kernel_rfl) (by kernel_rfl) Zbb_eq
def Zbq_P : List (LoopPf Zbq_C Zbq_As (bodyOf Tryd.f26)):=[⟨3,Zbq_A3,Zbq_B3,rfl,Zbq_R3⟩,⟨5,Zbq_A5,Zbq_B5,rfl,Zbq_R5⟩,⟨14,Zbq_A14,Zbq_B14,rfl,Zbq_R14⟩]
theorem Zbq_loops : LoopsOK Zbq_C Zbq_As (loopsIn (bodyOf Tryd.f26)):=loops_ok Zbq_P (by kernel_rfl) (by kernel_rfl)
theorem Zbq_cons : ∀ f site c,(Zbq_C).con f site=some c→c.Holds Tryd.prog (Zbq_C).glob f:=by
 intro f site c h
 unfold Zbq_C at h
 dsimp only at h
 split at h
 ·cases h; exact Zbm_holds
 ·cases h
theorem Zbq_holds : Con.Holds Tryd.prog glob 26 Zbq_c :=
 fn_holds (C:=Zbq_C) (A:=Zbq_As) (outs:=[(.tmp 8,true,(.slice I))]) seat_ok Zbq_cons (by kernel_rfl) (by kernel_rfl) Zbq_loops (by kernel_rfl) (by kernel_rfl) Zbq_eq
def Zbs_P : List (LoopPf Zbs_C Zbs_As (bodyOf Tryd.f13)):=[⟨8,Zbs_A8,Zbs_B8,rfl,Zbs_R8⟩]
theorem Zbs_loops : LoopsOK Zbs_C Zbs_As (loopsIn (bodyOf Tryd.f13)):=loops_ok Zbs_P (by kernel_rfl) (by kernel_rfl)
theorem Zbs_cons : ∀ f site c,(Zbs_C).con f site=some c→c.Holds Tryd.prog (Zbs_C).glob f:=by
 intro f site c h
 unfold Zbs_C at h
 dsimp only at h
 split at h
 ·cases h; exact Zax_holds
 ·cases h; exact Zay_holds
 ·cases h; exact Zp_holds
 ·cases h; exact Zbq_holds
 ·cases h; exact Zbb_holds
 ·cases h
theorem Zbs_holds : Con.Holds Tryd.prog glob 13 Zbs_c :=
 fn_holds (C:=Zbs_C) (A:=Zbs_As) (outs:=[(.tmp 2,true,(.slice (.prod I (.prod I .unit)))),(.tmp 3,true,I)]) seat_ok Zbs_cons (by kernel_rfl) (by kernel_rfl) Zbs_loops (by kernel_rfl) (by kernel_rfl) Zbs_eq
def Zk_P : List (LoopPf Zk_C Zk_As (bodyOf Tryd.f12)):=[⟨4,Zk_A4,Zk_B4,rfl,Zk_R4⟩]
theorem Zk_loops : LoopsOK Zk_C Zk_As (loopsIn (bodyOf Tryd.f12)):=loops_ok Zk_P (by kernel_rfl) (by kernel_rfl)
theorem Zk_cons : ∀ f site c,(Zk_C).con f site=some c→c.Holds Tryd.prog (Zk_C).glob f:=by
 intro f site c h; cases h
theorem Zk_holds : Con.Holds Tryd.prog glob 12 Zk_c :=
 fn_holds (C:=Zk_C) (A:=Zk_As) (outs:=[(.tmp 4,true,.bool)]) seat_ok Zk_cons (by kernel_rfl) (by kernel_rfl) Zk_loops (by kernel_rfl) (by kernel_rfl) Zk_eq
def Zh_P : List (LoopPf Zh_C Zh_As (bodyOf Tryd.f15)):=[⟨4,Zh_A4,Zh_B4,rfl,Zh_R4⟩]
theorem Zh_loops : LoopsOK Zh_C Zh_As (loopsIn (bodyOf Tryd.f15)):=loops_ok Zh_P (by kernel_rfl) (by kernel_rfl)
theorem Zh_cons : ∀ f site c,(Zh_C).con f site=some c→c.Holds Tryd.prog (Zh_C).glob f:=by
 intro f site c h; cases h
theorem Zh_holds : Con.Holds Tryd.prog glob 15 Zh_c :=
 fn_holds (C:=Zh_C) (A:=Zh_As) (outs:=[(.tmp 4,true,.bool)]) seat_ok Zh_cons (by kernel_rfl) (by kernel_rfl) Zh_loops (by kernel_rfl) (by kernel_rfl) Zh_eq
def Zca_P : List (LoopPf Zca_C Zca_As (bodyOf Tryd.f49)):=[]
theorem Zca_loops : LoopsOK Zca_C Zca_As (loopsIn (bodyOf Tryd.f49)):=loops_ok Zca_P (by kernel_rfl) (by kernel_rfl)
theorem Zca_cons : ∀ f site c,(Zca_C).con f site=some c→c.Holds Tryd.prog (Zca_C).glob f:=by
 intro f site c h; cases h
theorem Zca_holds : Con.Holds Tryd.prog glob 49 Zca_c :=
 fn_holds (C:=Zca_C) (A:=Zca_As) (outs:=[(.tmp 2,true,.bool)]) seat_ok Zca_cons (by kernel_rfl) (by kernel_rfl) Zca_loops (by kernel_rfl) (by kernel_rfl) Zca_eq
def Zab_P : List (LoopPf Zab_C Zab_As (bodyOf Tryd.f29)):=[⟨3,Zab_A3,Zab_B3,rfl,Zab_R3⟩]
theorem Zab_loops : LoopsOK Zab_C Zab_As (loopsIn (bodyOf Tryd.f29)):=loops_ok Zab_P (by kernel_rfl) (by kernel_rfl)
theorem Zab_cons : ∀ f site c,(Zab_C).con f site=some c→c.Holds Tryd.prog (Zab_C).glob f:=by
 intro f site c h
 unfold Zab_C at h
 dsimp only at h
 split at h
 ·cases h; exact Zca_holds
 ·cases h
theorem Zab_holds : Con.Holds Tryd.prog glob 29 Zab_c :=
 fn_holds (C:=Zab_C) (A:=Zab_As) (outs:=[(.tmp 2,true,.bool)]) seat_ok Zab_cons (by kernel_rfl) (by kernel_rfl) Zab_loops (by kernel_rfl) (by kernel_rfl) Zab_eq
def Zbp_P : List (LoopPf Zbp_C Zbp_As (bodyOf Tryd.f30)):=[]
theorem Zbp_loops : LoopsOK Zbp_C Zbp_As (loopsIn (bodyOf Tryd.f30)):=loops_ok Zbp_P (by kernel_rfl) (by kernel_rfl)
theorem Zbp_cons : ∀ f site c,(Zbp_C).con f site=some c→c.Holds Tryd.prog (Zbp_C).glob f:=by
 intro f site c h; cases h
theorem Zbp_holds : Con.Holds Tryd.prog glob 30 Zbp_c :=
 fn_holds (C:=Zbp_C) (A:=Zbp_As) (outs:=[(.tmp 6,true,.bool)]) seat_ok Zbp_cons (by kernel_rfl) (by kernel_rfl) Zbp_loops (by kernel_rfl) (by kernel_rfl) Zbp_eq
def Zcf_P : List (LoopPf Zcf_C Zcf_As (bodyOf Tryd.f66)):=[]
theorem Zcf_loops : LoopsOK Zcf_C Zcf_As (loopsIn (bodyOf Tryd.f66)):=loops_ok Zcf_P (by kernel_rfl) (by kernel_rfl)
theorem Zcf_cons : ∀ f site c,(Zcf_C).con f site=some c→c.Holds Tryd.prog (Zcf_C).glob f:=by
 intro f site c h
 unfold Zcf_C at h
 dsimp only at h
 split at h
 ·cases h; exact Zca_holds
 ·cases h
theorem Zcf_holds : Con.Holds Tryd.prog glob 66 Zcf_c :=
 fn_holds (C:=Zcf_C) (A:=Zcf_As) (outs:=[(.cell 2 78,true,(.prod (.prod I (.prod I .unit)) (.prod (.prod I (.prod I .unit)) .unit))),(.tmp 3,true,.bool)]) seat_ok Zcf_cons (by kernel_rfl) (by kernel_rfl) Zcf_loops (by kernel_rfl) (by kernel_rfl) Zcf_eq
def Zas_P : List (LoopPf Zas_C Zas_As (bodyOf Tryd.f81)):=[]
theorem Zas_loops : LoopsOK Zas_C Zas_As (loopsIn (bodyOf Tryd.f81)):=loops_ok Zas_P (by kernel_rfl) (by kernel_rfl)
theorem Zas_cons : ∀ f site c,(Zas_C).con f site=some c→c.Holds Tryd.prog (Zas_C).glob f:=by
 intro f site c h; cases h
theorem Zas_holds : Con.Holds Tryd.prog glob 81 Zas_c :=
 fn_holds (C:=Zas_C) (A:=Zas_As) (outs:=[(.tmp 4,true,.bool)]) seat_ok Zas_cons (by kernel_rfl) (by kernel_rfl) Zas_loops (by kernel_rfl) (by kernel_rfl) Zas_eq
def Zbe_P : List (LoopPf Zbe_C Zbe_As (bodyOf Tryd.f82)):=[]
theorem Zbe_loops : LoopsOK Zbe_C Zbe_As (loopsIn (bodyOf Tryd.f82)):=loops_ok Zbe_P (by kernel_rfl) (by kernel_rfl)
theorem Zbe_cons : ∀ f site c,(Zbe_C).con f site=some c→c.Holds Tryd.prog (Zbe_C).glob f:=by
 intro f site c h; cases h
theorem Zbe_holds : Con.Holds Tryd.prog glob 82 Zbe_c :=
 fn_holds (C:=Zbe_C) (A:=Zbe_As) (outs:=[(.tmp 4,true,I)]) seat_ok Zbe_cons (by kernel_rfl) (by kernel_rfl) Zbe_loops (by kernel_rfl) (by kernel_rfl) Zbe_eq
def Zbo_P : List (LoopPf Zbo_C Zbo_As (bodyOf Tryd.f67)):=[]
theorem Zbo_loops : LoopsOK Zbo_C Zbo_As (loopsIn (bodyOf Tryd.f67)):=loops_ok Zbo_P (by kernel_rfl) (by kernel_rfl)
theorem Zbo_cons : ∀ f site c,(Zbo_C).con f site=some c→c.Holds Tryd.prog (Zbo_C).glob f:=by
 intro f site c h
 unfold Zbo_C at h
 dsimp only at h
 split at h
 ·cases h; exact Zas_holds
 ·cases h; exact Zbe_holds
 ·cases h
theorem Zbo_holds : Con.Holds Tryd.prog glob 67 Zbo_c :=
 fn_holds (C:=Zbo_C) (A:=Zbo_As) (outs:=[(.tmp 4,true,.bool)]) seat_ok Zbo_cons (by kernel_rfl) (by kernel_rfl) Zbo_loops (by kernel_rfl) (by kernel_rfl) Zbo_eq
def Zce_P : List (LoopPf Zce_C Zce_As (bodyOf Tryd.f52)):=[]
theorem Zce_loops : LoopsOK Zce_C Zce_As (loopsIn (bodyOf Tryd.f52)):=loops_ok Zce_P (by kernel_rfl) (by kernel_rfl)
theorem Zce_cons : ∀ f site c,(Zce_C).con f site=some c→c.Holds Tryd.prog (Zce_C).glob f:=by
 intro f site c h
 unfold Zce_C at h
 dsimp only at h
 split at h
 ·cases h; exact Zca_holds
 ·cases h; exact Zcf_holds
 ·cases h; exact Zbo_holds
 ·cases h
theorem Zce_holds : Con.Holds Tryd.prog glob 52 Zce_c :=
 fn_holds (C:=Zce_C) (A:=Zce_As) (outs:=[(.tmp 4,true,.bool)]) seat_ok Zce_cons (by kernel_rfl) (by kernel_rfl) Zce_loops (by kernel_rfl) (by kernel_rfl) Zce_eq
def Zau_P : List (LoopPf Zau_C Zau_As (bodyOf Tryd.f68)):=[]
theorem Zau_loops : LoopsOK Zau_C Zau_As (loopsIn (bodyOf Tryd.f68)):=loops_ok Zau_P (by kernel_rfl) (by kernel_rfl)
theorem Zau_cons : ∀ f site c,(Zau_C).con f site=some c→c.Holds Tryd.prog (Zau_C).glob f:=by
 intro f site c h
 unfold Zau_C at h
 dsimp only at h
 split at h
 ·cases h; exact Zbe_holds
 ·cases h
theorem Zau_holds : Con.Holds Tryd.prog glob 68 Zau_c :=
 fn_holds (C:=Zau_C) (A:=Zau_As) (outs:=[(.tmp 4,true,.bool)]) seat_ok Zau_cons (by kernel_rfl) (by kernel_rfl) Zau_loops (by kernel_rfl) (by kernel_rfl) Zau_eq
def Zcd_P : List (LoopPf Zcd_C Zcd_As (bodyOf Tryd.f53)):=[]
theorem Zcd_loops : LoopsOK Zcd_C Zcd_As (loopsIn (bodyOf Tryd.f53)):=loops_ok Zcd_P (by kernel_rfl) (by kernel_rfl)
theorem Zcd_cons : ∀ f site c,(Zcd_C).con f site=some c→c.Holds Tryd.prog (Zcd_C).glob f:=by
 intro f site c h
 unfold Zcd_C at h
 dsimp only at h
 split at h
 ·cases h; exact Zcf_holds
 ·cases h; exact Zbo_holds
 ·cases h; exact Zau_holds
 ·cases h
theorem Zcd_holds : Con.Holds Tryd.prog glob 53 Zcd_c :=
 fn_holds (C:=Zcd_C) (A:=Zcd_As) (outs:=[(.tmp 4,true,.bool)]) seat_ok Zcd_cons (by kernel_rfl) (by kernel_rfl) Zcd_loops (by kernel_rfl) (by kernel_rfl) Zcd_eq
def Zbu_P : List (LoopPf Zbu_C Zbu_As (bodyOf Tryd.f32)):=[]
theorem Zbu_loops : LoopsOK Zbu_C Zbu_As (loopsIn (bodyOf Tryd.f32)):=loops_ok Zbu_P (by kernel_rfl) (by kernel_rfl)
theorem Zbu_cons : ∀ f site c,(Zbu_C).con f site=some c→c.Holds Tryd.prog (Zbu_C).glob f:=by
 intro f site c h
 unfold Zbu_C at h
 dsimp only at h
 split at h
 ·cases h; exact Zce_holds
 ·cases h; exact Zcd_holds
 ·cases h
theorem Zbu_holds : Con.Holds Tryd.prog glob 32 Zbu_c :=
 fn_holds (C:=Zbu_C) (A:=Zbu_As) (outs:=[(.tmp 6,true,.bool)]) seat_ok Zbu_cons (by kernel_rfl) (by kernel_rfl) Zbu_loops (by kernel_rfl) (by kernel_rfl) Zbu_eq
def Zbt_P : List (LoopPf Zbt_C Zbt_As (bodyOf Tryd.f16)):=[⟨4,Zbt_A4,Zbt_B4,rfl,Zbt_R4⟩,⟨10,Zbt_A10,Zbt_B10,rfl,Zbt_R10⟩,⟨13,Zbt_A13,Zbt_B13,rfl,Zbt_R13⟩]
theorem Zbt_loops : LoopsOK Zbt_C Zbt_As (loopsIn (bodyOf Tryd.f16)):=loops_ok Zbt_P (by kernel_rfl) (by kernel_rfl)
theorem Zbt_cons : ∀ f site c,(Zbt_C).con f site=some c→c.Holds Tryd.prog (Zbt_C).glob f:=by
 intro f site c h
 unfold Zbt_C at h
 dsimp only at h
 split at h
 ·cases h; exact Zax_holds
 ·cases h; exact Zay_holds
 ·cases h; exact Zab_holds
 ·cases h; exact Zbp_holds
 ·cases h; exact Zbm_holds
 ·cases h; exact Zbu_holds
 ·cases h
theorem Zbt_holds : Con.Holds Tryd.prog glob 16 Zbt_c :=
 fn_holds (C:=Zbt_C) (A:=Zbt_As) (outs:=[(.tmp 4,true,.bool)]) seat_ok Zbt_cons (by kernel_rfl) (by kernel_rfl) Zbt_loops (by kernel_rfl) (by kernel_rfl) Zbt_eq
def Zaj_P : List (LoopPf Zaj_C Zaj_As (bodyOf Tryd.f9)):=[]
theorem Zaj_loops : LoopsOK Zaj_C Zaj_As (loopsIn (bodyOf Tryd.f9)):=loops_ok Zaj_P (by kernel_rfl) (by kernel_rfl)
theorem Zaj_cons : ∀ f site c,(Zaj_C).con f site=some c→c.Holds Tryd.prog (Zaj_C).glob f:=by
 intro f site c h
 unfold Zaj_C at h
 dsimp only at h
 split at h
 ·cases h; exact Zu_holds
 ·cases h; exact Zk_holds
 ·cases h; exact Zbs_holds
 ·cases h; exact Zh_holds
 ·cases h; exact Zbt_holds
 ·cases h; exact Zr_holds
 ·cases h
theorem Zaj_holds : Con.Holds Tryd.prog glob 9 Zaj_c :=
 fn_holds (C:=Zaj_C) (A:=Zaj_As) (outs:=[(.tmp 0,true,.bool)]) seat_ok Zaj_cons (by kernel_rfl) (by kernel_rfl) Zaj_loops (by kernel_rfl) (by kernel_rfl) Zaj_eq
def Zah_P : List (LoopPf Zah_C Zah_As (bodyOf Tryd.f54)):=[⟨3,Zah_A3,Zah_B3,rfl,Zah_R3⟩]
theorem Zah_loops : LoopsOK Zah_C Zah_As (loopsIn (bodyOf Tryd.f54)):=loops_ok Zah_P (by kernel_rfl) (by kernel_rfl)
theorem Zah_cons : ∀ f site c,(Zah_C).con f site=some c→c.Holds Tryd.prog (Zah_C).glob f:=by
 intro f site c h; cases h
theorem Zah_holds : Con.Holds Tryd.prog glob 54 Zah_c :=
 fn_holds (C:=Zah_C) (A:=Zah_As) (outs:=[(.tmp 2,true,(.slice I))]) seat_ok Zah_cons (by kernel_rfl) (by kernel_rfl) Zah_loops (by kernel_rfl) (by kernel_rfl) Zah_eq
def Zx_P : List (LoopPf Zx_C Zx_As (bodyOf Tryd.f39)):=[⟨4,Zx_A4,Zx_B4,rfl,Zx_R4⟩,⟨13,Zx_A13,Zx_B13,rfl,Zx_R13⟩,⟨16,Zx_A16,Zx_B16,rfl,Zx_R16⟩]
theorem Zx_loops : LoopsOK Zx_C Zx_As (loopsIn (bodyOf Tryd.f39)):=loops_ok Zx_P (by kernel_rfl) (by kernel_rfl)
theorem Zx_cons : ∀ f site c,(Zx_C).con f site=some c→c.Holds Tryd.prog (Zx_C).glob f:=by
 intro f site c h
 unfold Zx_C at h
 dsimp only at h
 split at h
 ·cases h; exact Zah_holds
 ·cases h
theorem Zx_holds : Con.Holds Tryd.prog glob 39 Zx_c :=
 fn_holds (C:=Zx_C) (A:=Zx_As) (outs:=[(.tmp 2,true,.bool)]) seat_ok Zx_cons (by kernel_rfl) (by kernel_rfl) Zx_loops (by kernel_rfl) (by kernel_rfl) Zx_eq
def Zv_P : List (LoopPf Zv_C Zv_As (bodyOf Tryd.f57)):=[⟨3,Zv_A3,Zv_B3,rfl,Zv_R3⟩,⟨7,Zv_A7,Zv_B7,rfl,Zv_R7⟩]
theorem Zv_loops : LoopsOK Zv_C Zv_As (loopsIn (bodyOf Tryd.f57)):=loops_ok Zv_P (by kernel_rfl) (by kernel_rfl)
theorem Zv_cons : ∀ f site c,(Zv_C).con f site=some c→c.Holds Tryd.prog (Zv_C).glob f:=by
 intro f site c h; cases h
theorem Zv_holds : Con.Holds Tryd.prog glob 57 Zv_c :=
 fn_holds (C:=Zv_C) (A:=Zv_As) (outs:=[(.tmp 2,true,(.slice I))]) seat_ok Zv_cons (by kernel_rfl) (by kernel_rfl) Zv_loops (by kernel_rfl) (by kernel_rfl) Zv_eq
def Zac_P : List (LoopPf Zac_C Zac_As (bodyOf Tryd.f58)):=[]
theorem Zac_loops : LoopsOK Zac_C Zac_As (loopsIn (bodyOf Tryd.f58)):=loops_ok Zac_P (by kernel_rfl) (by kernel_rfl)
theorem Zac_cons : ∀ f site c,(Zac_C).con f site=some c→c.Holds Tryd.prog (Zac_C).glob f:=by
 intro f site c h; cases h
theorem Zac_holds : Con.Holds Tryd.prog glob 58 Zac_c :=
 fn_holds (C:=Zac_C) (A:=Zac_As) (outs:=[(.tmp 2,true,I)]) seat_ok Zac_cons (by kernel_rfl) (by kernel_rfl) Zac_loops (by kernel_rfl) (by kernel_rfl) Zac_eq
def Zz_P : List (LoopPf Zz_C Zz_As (bodyOf Tryd.f37)):=[⟨7,Zz_A7,Zz_B7,rfl,Zz_R7⟩,⟨12,Zz_A12,Zz_B12,rfl,Zz_R12⟩]
theorem Zz_loops : LoopsOK Zz_C Zz_As (loopsIn (bodyOf Tryd.f37)):=loops_ok Zz_P (by kernel_rfl) (by kernel_rfl)
theorem Zz_cons : ∀ f site c,(Zz_C).con f site=some c→c.Holds Tryd.prog (Zz_C).glob f:=by
 intro f site c h
 unfold Zz_C at h
 dsimp only at h
 split at h
 ·cases h; exact Zx_holds
 ·cases h; exact Zv_holds
 ·cases h; exact Zac_holds
 ·cases h
theorem Zz_holds : Con.Holds Tryd.prog glob 37 Zz_c :=
 fn_holds (C:=Zz_C) (A:=Zz_As) (outs:=[(.tmp 2,true,(.slice (.slice I)))]) seat_ok Zz_cons (by kernel_rfl) (by kernel_rfl) Zz_loops (by kernel_rfl) (by kernel_rfl) Zz_eq
def Zaz_P : List (LoopPf Zaz_C Zaz_As (bodyOf Tryd.f72)):=[⟨1,Zaz_A1,Zaz_B1,rfl,Zaz_R1⟩]
theorem Zaz_loops : LoopsOK Zaz_C Zaz_As (loopsIn (bodyOf Tryd.f72)):=loops_ok Zaz_P (by kernel_rfl) (by kernel_rfl)
theorem Zaz_cons : ∀ f site c,(Zaz_C).con f site=some c→c.Holds Tryd.prog (Zaz_C).glob f:=by
 intro f site c h; cases h
theorem Zaz_holds : Con.Holds Tryd.prog glob 72 Zaz_c :=
 fn_holds (C:=Zaz_C) (A:=Zaz_As) (outs:=[(.tmp 4,true,I)]) seat_ok Zaz_cons (by kernel_rfl) (by kernel_rfl) Zaz_loops (by kernel_rfl) (by kernel_rfl) Zaz_eq
def Zg_P : List (LoopPf Zg_C Zg_As (bodyOf Tryd.f60)):=[⟨3,Zg_A3,Zg_B3,rfl,Zg_R3⟩,⟨8,Zg_A8,Zg_B8,rfl,Zg_R8⟩]
theorem Zg_loops : LoopsOK Zg_C Zg_As (loopsIn (bodyOf Tryd.f60)):=loops_ok Zg_P (by kernel_rfl) (by kernel_rfl)
theorem Zg_cons : ∀ f site c,(Zg_C).con f site=some c→c.Holds Tryd.prog (Zg_C).glob f:=by
 intro f site c h
 unfold Zg_C at h
 dsimp only at h
 split at h
 ·cases h; exact Zaz_holds
 ·cases h
theorem Zg_holds : Con.Holds Tryd.prog glob 60 Zg_c :=
 fn_holds (C:=Zg_C) (A:=Zg_As) (outs:=[(.tmp 2,true,I)]) seat_ok Zg_cons (by kernel_rfl) (by kernel_rfl) Zg_loops (by kernel_rfl) (by kernel_rfl) Zg_eq
def Zaa_P : List (LoopPf Zaa_C Zaa_As (bodyOf Tryd.f59)):=[⟨5,Zaa_A5,Zaa_B5,rfl,Zaa_R5⟩]
theorem Zaa_loops : LoopsOK Zaa_C Zaa_As (loopsIn (bodyOf Tryd.f59)):=loops_ok Zaa_P (by kernel_rfl) (by kernel_rfl)
theorem Zaa_cons : ∀ f site c,(Zaa_C).con f site=some c→c.Holds Tryd.prog (Zaa_C).glob f:=by
 intro f site c h
 unfold Zaa_C at h
 dsimp only at h
 split at h
 ·cases h; exact Zz_holds
 ·cases h; exact Zx_holds
 ·cases h; exact Zg_holds
 ·cases h
theorem Zaa_holds : Con.Holds Tryd.prog glob 59 Zaa_c :=
 fn_holds (C:=Zaa_C) (A:=Zaa_As) (outs:=[(.tmp 2,true,I)]) seat_ok Zaa_cons (by kernel_rfl) (by kernel_rfl) Zaa_loops (by kernel_rfl) (by kernel_rfl) Zaa_eq
def Zs_P : List (LoopPf Zs_C Zs_As (bodyOf Tryd.f40)):=[]
theorem Zs_loops : LoopsOK Zs_C Zs_As (loopsIn (bodyOf Tryd.f40)):=loops_ok Zs_P (by kernel_rfl) (by kernel_rfl)
theorem Zs_cons : ∀ f site c,(Zs_C).con f site=some c→c.Holds Tryd.prog (Zs_C).glob f:=by
 intro f site c h
 unfold Zs_C at h
 dsimp only at h
 split at h
 ·cases h; exact Zaa_holds
 ·cases h; exact Zg_holds
 ·cases h
theorem Zs_holds : Con.Holds Tryd.prog glob 40 Zs_c :=
 fn_holds (C:=Zs_C) (A:=Zs_As) (outs:=[(.tmp 2,true,.bool)]) seat_ok Zs_cons (by kernel_rfl) (by kernel_rfl) Zs_loops (by kernel_rfl) (by kernel_rfl) Zs_eq
def Zat_P : List (LoopPf Zat_C Zat_As (bodyOf Tryd.f41)):=[⟨2,Zat_A2,Zat_B2,rfl,Zat_R2⟩,⟨6,Zat_A6,Zat_B6,rfl,Zat_R6⟩]
theorem Zat_loops : LoopsOK Zat_C Zat_As (loopsIn (bodyOf Tryd.f41)):=loops_ok Zat_P (by kernel_rfl) (by kernel_rfl)
theorem Zat_cons : ∀ f site c,(Zat_C).con f site=some c→c.Holds Tryd.prog (Zat_C).glob f:=by
 intro f site c h; cases h
theorem Zat_holds : Con.Holds Tryd.prog glob 41 Zat_c :=
 fn_holds (C:=Zat_C) (A:=Zat_As) (outs:=[(.tmp 2,true,.bool)]) seat_ok Zat_cons (by kernel_rfl) (by kernel_rfl) Zat_loops (by kernel_rfl) (by kernel_rfl) Zat_eq
def Zi_P : List (LoopPf Zi_C Zi_As (bodyOf Tryd.f73)):=[]
theorem Zi_loops : LoopsOK Zi_C Zi_As (loopsIn (bodyOf Tryd.f73)):=loops_ok Zi_P (by kernel_rfl) (by kernel_rfl)
theorem Zi_cons : ∀ f site c,(Zi_C).con f site=some c→c.Holds Tryd.prog (Zi_C).glob f:=by
 intro f site c h; cases h
theorem Zi_holds : Con.Holds Tryd.prog glob 73 Zi_c :=
 fn_holds (C:=Zi_C) (A:=Zi_As) (outs:=[(.tmp 2,true,(.int .u8))]) seat_ok Zi_cons (by kernel_rfl) (by kernel_rfl) Zi_loops (by kernel_rfl) (by kernel_rfl) Zi_eq
def Zo_P : List (LoopPf Zo_C Zo_As (bodyOf Tryd.f61)):=[⟨3,Zo_A3,Zo_B3,rfl,Zo_R3⟩]
theorem Zo_loops : LoopsOK Zo_C Zo_As (loopsIn (bodyOf Tryd.f61)):=loops_ok Zo_P (by kernel_rfl) (by kernel_rfl)
theorem Zo_cons : ∀ f site c,(Zo_C).con f site=some c→c.Holds Tryd.prog (Zo_C).glob f:=by
 intro f site c h
 unfold Zo_C at h
 dsimp only at h
 split at h
 ·cases h; exact Zi_holds
 ·cases h
theorem Zo_holds : Con.Holds Tryd.prog glob 61 Zo_c :=
 fn_holds (C:=Zo_C) (A:=Zo_As) (outs:=[(.tmp 2,true,.str)]) seat_ok Zo_cons (by kernel_rfl) (by kernel_rfl) Zo_loops (by kernel_rfl) (by kernel_rfl) Zo_eq
def Zai_P : List (LoopPf Zai_C Zai_As (bodyOf Tryd.f42)):=[⟨2,Zai_A2,Zai_B2,rfl,Zai_R2⟩,⟨7,Zai_A7,Zai_B7,rfl,Zai_R7⟩]
theorem Zai_loops : LoopsOK Zai_C Zai_As (loopsIn (bodyOf Tryd.f42)):=loops_ok Zai_P (by kernel_rfl) (by kernel_rfl)
theorem Zai_cons : ∀ f site c,(Zai_C).con f site=some c→c.Holds Tryd.prog (Zai_C).glob f:=by
 intro f site c h
 unfold Zai_C at h
 dsimp only at h
 split at h
 ·cases h; exact Zo_holds
 ·cases h
theorem Zai_holds : Con.Holds Tryd.prog glob 42 Zai_c :=
 fn_holds (C:=Zai_C) (A:=Zai_As) (outs:=[(.tmp 2,true,.bool)]) seat_ok Zai_cons (by kernel_rfl) (by kernel_rfl) Zai_loops (by kernel_rfl) (by kernel_rfl) Zai_eq
def Zbd_P : List (LoopPf Zbd_C Zbd_As (bodyOf Tryd.f43)):=[⟨2,Zbd_A2,Zbd_B2,rfl,Zbd_R2⟩]
theorem Zbd_loops : LoopsOK Zbd_C Zbd_As (loopsIn (bodyOf Tryd.f43)):=loops_ok Zbd_P (by kernel_rfl) (by kernel_rfl)
theorem Zbd_cons : ∀ f site c,(Zbd_C).con f site=some c→c.Holds Tryd.prog (Zbd_C).glob f:=by
 intro f site c h; cases h
theorem Zbd_holds : Con.Holds Tryd.prog glob 43 Zbd_c :=
 fn_holds (C:=Zbd_C) (A:=Zbd_As) (outs:=[(.tmp 4,true,.bool)]) seat_ok Zbd_cons (by kernel_rfl) (by kernel_rfl) Zbd_loops (by kernel_rfl) (by kernel_rfl) Zbd_eq
def Zaq_P : List (LoopPf Zaq_C Zaq_As (bodyOf Tryd.f62)):=[⟨3,Zaq_A3,Zaq_B3,rfl,Zaq_R3⟩]
theorem Zaq_loops : LoopsOK Zaq_C Zaq_As (loopsIn (bodyOf Tryd.f62)):=loops_ok Zaq_P (by kernel_rfl) (by kernel_rfl)
theorem Zaq_cons : ∀ f site c,(Zaq_C).con f site=some c→c.Holds Tryd.prog (Zaq_C).glob f:=by
 intro f site c h; cases h
theorem Zaq_holds : Con.Holds Tryd.prog glob 62 Zaq_c :=
 fn_holds (C:=Zaq_C) (A:=Zaq_As) (outs:=[(.tmp 2,true,I)]) seat_ok Zaq_cons (by kernel_rfl) (by kernel_rfl) Zaq_loops (by kernel_rfl) (by kernel_rfl) Zaq_eq
def Zal_P : List (LoopPf Zal_C Zal_As (bodyOf Tryd.f44)):=[⟨3,Zal_A3,Zal_B3,rfl,Zal_R3⟩]
theorem Zal_loops : LoopsOK Zal_C Zal_As (loopsIn (bodyOf Tryd.f44)):=loops_ok Zal_P (by kernel_rfl) (by kernel_rfl)
theorem Zal_cons : ∀ f site c,(Zal_C).con f site=some c→c.Holds Tryd.prog (Zal_C).glob f:=by
 intro f site c h
 unfold Zal_C at h
 dsimp only at h
 split at h
 ·cases h; exact Zaq_holds
 ·cases h
theorem Zal_holds : Con.Holds Tryd.prog glob 44 Zal_c :=
 fn_holds (C:=Zal_C) (A:=Zal_As) (outs:=[(.tmp 4,true,I)]) seat_ok Zal_cons (by kernel_rfl) (by kernel_rfl) Zal_loops (by kernel_rfl) (by kernel_rfl) Zal_eq
def Zao_P : List (LoopPf Zao_C Zao_As (bodyOf Tryd.f19)):=[⟨8,Zao_A8,Zao_B8,rfl,Zao_R8⟩]
theorem Zao_loops : LoopsOK Zao_C Zao_As (loopsIn (bodyOf Tryd.f19)):=loops_ok Zao_P (by kernel_rfl) (by kernel_rfl)
theorem Zao_cons : ∀ f site c,(Zao_C).con f site=some c→c.Holds Tryd.prog (Zao_C).glob f:=by
 intro f site c h
 unfold Zao_C at h
 dsimp only at h
 split at h
 ·cases h; exact Zz_holds
 ·cases h; exact Zx_holds
 ·cases h; exact Zs_holds
 ·cases h; exact Zat_holds
 ·cases h; exact Zai_holds
 ·cases h; exact Zbd_holds
 ·cases h; exact Zal_holds
 ·cases h
theorem Zao_holds : Con.Holds Tryd.prog glob 19 Zao_c :=
 fn_holds (C:=Zao_C) (A:=Zao_As) (outs:=[(.tmp 2,true,I)]) seat_ok Zao_cons (by kernel_rfl) (by kernel_rfl) Zao_loops (by kernel_rfl) (by kernel_rfl) Zao_eq
def Zaf_P : List (LoopPf Zaf_C Zaf_As (bodyOf Tryd.f20)):=[⟨5,Zaf_A5,Zaf_B5,rfl,Zaf_R5⟩]
theorem Zaf_loops : LoopsOK Zaf_C Zaf_As (loopsIn (bodyOf Tryd.f20)):=loops_ok Zaf_P (by kernel_rfl) (by kernel_rfl)
theorem Zaf_cons : ∀ f site c,(Zaf_C).con f site=some c→c.Holds Tryd.prog (Zaf_C).glob f:=by
 intro f site c h
 unfold Zaf_C at h
 dsimp only at h
 split at h
 ·cases h; exact Zao_holds
 ·cases h
theorem Zaf_holds : Con.Holds Tryd.prog glob 20 Zaf_c :=
 fn_holds (C:=Zaf_C) (A:=Zaf_As) (outs:=[(.tmp 2,true,I)]) seat_ok Zaf_cons (by kernel_rfl) (by kernel_rfl) Zaf_loops (by kernel_rfl) (by kernel_rfl) Zaf_eq
def Zj_P : List (LoopPf Zj_C Zj_As (bodyOf Tryd.f24)):=[]
theorem Zj_loops : LoopsOK Zj_C Zj_As (loopsIn (bodyOf Tryd.f24)):=loops_ok Zj_P (by kernel_rfl) (by kernel_rfl)
theorem Zj_cons : ∀ f site c,(Zj_C).con f site=some c→c.Holds Tryd.prog (Zj_C).glob f:=by
 intro f site c h
 unfold Zj_C at h
 dsimp only at h
 split at h
 ·cases h; exact Zao_holds
 ·cases h; exact Zaf_holds
 ·cases h
theorem Zj_holds : Con.Holds Tryd.prog glob 24 Zj_c :=
 fn_holds (C:=Zj_C) (A:=Zj_As) (outs:=[(.tmp 2,true,.bool)]) seat_ok Zj_cons (by kernel_rfl) (by kernel_rfl) Zj_loops (by kernel_rfl) (by kernel_rfl) Zj_eq
def Zf_P : List (LoopPf Zf_C Zf_As (bodyOf Tryd.f11)):=[⟨6,Zf_A6,Zf_B6,rfl,Zf_R6⟩,⟨12,Zf_A12,Zf_B12,rfl,Zf_R12⟩,⟨15,Zf_A15,Zf_B15,rfl,Zf_R15⟩,⟨19,Zf_A19,Zf_B19,rfl,Zf_R19⟩]
theorem Zf_loops : LoopsOK Zf_C Zf_As (loopsIn (bodyOf Tryd.f11)):=loops_ok Zf_P (by kernel_rfl) (by kernel_rfl)
theorem Zf_cons : ∀ f site c,(Zf_C).con f site=some c→c.Holds Tryd.prog (Zf_C).glob f:=by
 intro f site c h
 unfold Zf_C at h
 dsimp only at h
 split at h
 ·cases h; exact Zj_holds
 ·cases h
theorem Zf_holds : Con.Holds Tryd.prog glob 11 Zf_c :=
 fn_holds (C:=Zf_C) (A:=Zf_As) (outs:=[(.tmp 2,true,(.slice I)),(.tmp 3,true,I)]) seat_ok Zf_cons (by kernel_rfl) (by kernel_rfl) Zf_loops (by kernel_rfl) (by kernel_rfl) Zf_eq
def Za_P : List (LoopPf Za_C Za_As (bodyOf Tryd.f3)):=[]
def Zba_P : List (LoopPf Zba_C Zba_As (bodyOf Tryd.f38)):=[⟨2,Zba_A2,Zba_B2,rfl,Zba_R2⟩]
theorem Zba_loops : LoopsOK Zba_C Zba_As (loopsIn (bodyOf Tryd.f38)):=loops_ok Zba_P (by kernel_rfl) (by kernel_rfl)
theorem Zba_cons : ∀ f site c,(Zba_C).con f site=some c→c.Holds Tryd.prog (Zba_C).glob f:=by
 intro f site c h; cases h
theorem Zba_holds : Con.Holds Tryd.prog glob 38 Zba_c :=
 fn_holds (C:=Zba_C) (A:=Zba_As) (outs:=[(.tmp 4,true,.bool)]) seat_ok Zba_cons (by kernel_rfl) (by kernel_rfl) Zba_loops (by kernel_rfl) (by kernel_rfl) Zba_eq
def Ze_P : List (LoopPf Ze_C Ze_As (bodyOf Tryd.f18)):=[⟨5,Ze_A5,Ze_B5,rfl,Ze_R5⟩,⟨12,Ze_A12,Ze_B12,rfl,Ze_R12⟩]
theorem Ze_loops : LoopsOK Ze_C Ze_As (loopsIn (bodyOf Tryd.f18)):=loops_ok Ze_P (by kernel_rfl) (by kernel_rfl)
theorem Ze_cons : ∀ f site c,(Ze_C).con f site=some c→c.Holds Tryd.prog (Ze_C).glob f:=by
 intro f site c h
 unfold Ze_C at h
 dsimp only at h
 split at h
 ·cases h; exact Zj_holds
 ·cases h; exact Zz_holds
 ·cases h; exact Zba_holds
 ·cases h
theorem Ze_holds : Con.Holds Tryd.prog glob 18 Ze_c :=
 fn_holds (C:=Ze_C) (A:=Ze_As) (outs:=[(.tmp 2,true,.bool)]) seat_ok Ze_cons (by kernel_rfl) (by kernel_rfl) Ze_loops (by kernel_rfl) (by kernel_rfl) Ze_eq
def Zav_P : List (LoopPf Zav_C Zav_As (bodyOf Tryd.f35)):=[]
theorem Zav_loops : LoopsOK Zav_C Zav_As (loopsIn (bodyOf Tryd.f35)):=loops_ok Zav_P (by kernel_rfl) (by kernel_rfl)
theorem Zav_cons : ∀ f site c,(Zav_C).con f site=some c→c.Holds Tryd.prog (Zav_C).glob f:=by
 intro f site c h
 unfold Zav_C at h
 dsimp only at h
 split at h
 ·cases h; exact Zx_holds
 ·cases h; exact Zah_holds
 ·cases h
theorem Zav_holds : Con.Holds Tryd.prog glob 35 Zav_c :=
 fn_holds (C:=Zav_C) (A:=Zav_As) (outs:=[(.tmp 4,true,I)]) seat_ok Zav_cons (by kernel_rfl) (by kernel_rfl) Zav_loops (by kernel_rfl) (by kernel_rfl) Zav_eq
def Zq_P : List (LoopPf Zq_C Zq_As (bodyOf Tryd.f28)):=[⟨3,Zq_A3,Zq_B3,rfl,Zq_R3⟩,⟨6,Zq_A6,Zq_B6,rfl,Zq_R6⟩]
def Zam_P : List (LoopPf Zam_C Zam_As (bodyOf Tryd.f14)):=[⟨8,Zam_A8,Zam_B8,rfl,Zam_R8⟩]
def Zb_P : List (LoopPf Zb_C Zb_As (bodyOf Tryd.f4)):=[]
def Zy_P : List (LoopPf Zy_C Zy_As (bodyOf Tryd.f33)):=[]
theorem Zy_loops : LoopsOK Zy_C Zy_As (loopsIn (bodyOf Tryd.f33)):=loops_ok Zy_P (by kernel_rfl) (by kernel_rfl)
theorem Zy_cons : ∀ f site c,(Zy_C).con f site=some c→c.Holds Tryd.prog (Zy_C).glob f:=by
 intro f site c h; cases h
theorem Zy_holds : Con.Holds Tryd.prog glob 33 Zy_c :=
 fn_holds (C:=Zy_C) (A:=Zy_As) (outs:=[(.tmp 2,true,.bool)]) seat_ok Zy_cons (by kernel_rfl) (by kernel_rfl) Zy_loops (by kernel_rfl) (by kernel_rfl) Zy_eq
def Zw_P : List (LoopPf Zw_C Zw_As (bodyOf Tryd.f34)):=[]
theorem Zw_loops : LoopsOK Zw_C Zw_As (loopsIn (bodyOf Tryd.f34)):=loops_ok Zw_P (by kernel_rfl) (by kernel_rfl)
theorem Zw_cons : ∀ f site c,(Zw_C).con f site=some c→c.Holds Tryd.prog (Zw_C).glob f:=by
 intro f site c h; cases h
theorem Zw_holds : Con.Holds Tryd.prog glob 34 Zw_c :=
 fn_holds (C:=Zw_C) (A:=Zw_As) (outs:=[(.tmp 6,true,.bool)]) seat_ok Zw_cons (by kernel_rfl) (by kernel_rfl) Zw_loops (by kernel_rfl) (by kernel_rfl) Zw_eq
def Zae_P : List (LoopPf Zae_C Zae_As (bodyOf Tryd.f70)):=[]
theorem Zae_loops : LoopsOK Zae_C Zae_As (loopsIn (bodyOf Tryd.f70)):=loops_ok Zae_P (by kernel_rfl) (by kernel_rfl)
theorem Zae_cons : ∀ f site c,(Zae_C).con f site=some c→c.Holds Tryd.prog (Zae_C).glob f:=by
 intro f site c h
 unfold Zae_C at h
 dsimp only at h
 split at h
 ·cases h; exact Zy_holds
 ·cases h
theorem Zae_holds : Con.Holds Tryd.prog glob 70 Zae_c :=
 fn_holds (C:=Zae_C) (A:=Zae_As) (outs:=[(.tmp 2,true,.bool)]) seat_ok Zae_cons (by kernel_rfl) (by kernel_rfl) Zae_loops (by kernel_rfl) (by kernel_rfl) Zae_eq
def Zar_P : List (LoopPf Zar_C Zar_As (bodyOf Tryd.f83)):=[]
theorem Zar_loops : LoopsOK Zar_C Zar_As (loopsIn (bodyOf Tryd.f83)):=loops_ok Zar_P (by kernel_rfl) (by kernel_rfl)
theorem Zar_cons : ∀ f site c,(Zar_C).con f site=some c→c.Holds Tryd.prog (Zar_C).glob f:=by
 intro f site c h; cases h
theorem Zar_holds : Con.Holds Tryd.prog glob 83 Zar_c :=
 fn_holds (C:=Zar_C) (A:=Zar_As) (outs:=[(.tmp 2,true,I)]) seat_ok Zar_cons (by kernel_rfl) (by kernel_rfl) Zar_loops (by kernel_rfl) (by kernel_rfl) Zar_eq
def Zt_P : List (LoopPf Zt_C Zt_As (bodyOf Tryd.f71)):=[]
theorem Zt_loops : LoopsOK Zt_C Zt_As (loopsIn (bodyOf Tryd.f71)):=loops_ok Zt_P (by kernel_rfl) (by kernel_rfl)
theorem Zt_cons : ∀ f site c,(Zt_C).con f site=some c→c.Holds Tryd.prog (Zt_C).glob f:=by
 intro f site c h
 unfold Zt_C at h
 dsimp only at h
 split at h
 ·cases h; exact Zy_holds
 ·cases h; exact Zar_holds
 ·cases h
theorem Zt_holds : Con.Holds Tryd.prog glob 71 Zt_c :=
 fn_holds (C:=Zt_C) (A:=Zt_As) (outs:=[(.tmp 6,true,I)]) seat_ok Zt_cons (by kernel_rfl) (by kernel_rfl) Zt_loops (by kernel_rfl) (by kernel_rfl) Zt_eq
def Zag_P : List (LoopPf Zag_C Zag_As (bodyOf Tryd.f69)):=[]
theorem Zag_loops : LoopsOK Zag_C Zag_As (loopsIn (bodyOf Tryd.f69)):=loops_ok Zag_P (by kernel_rfl) (by kernel_rfl)
theorem Zag_cons : ∀ f site c,(Zag_C).con f site=some c→c.Holds Tryd.prog (Zag_C).glob f:=by
 intro f site c h
 unfold Zag_C at h
 dsimp only at h
 split at h
 ·cases h; exact Zae_holds
 ·cases h; exact Zt_holds
 ·cases h
theorem Zag_holds : Con.Holds Tryd.prog glob 69 Zag_c :=
 fn_holds (C:=Zag_C) (A:=Zag_As) (outs:=[(.tmp 4,true,.bool)]) seat_ok Zag_cons (by kernel_rfl) (by kernel_rfl) Zag_loops (by kernel_rfl) (by kernel_rfl) Zag_eq
def Zbj_P : List (LoopPf Zbj_C Zbj_As (bodyOf Tryd.f56)):=[]
theorem Zbj_loops : LoopsOK Zbj_C Zbj_As (loopsIn (bodyOf Tryd.f56)):=loops_ok Zbj_P (by kernel_rfl) (by kernel_rfl)
theorem Zbj_cons : ∀ f site c,(Zbj_C).con f site=some c→c.Holds Tryd.prog (Zbj_C).glob f:=by
 intro f site c h
 unfold Zbj_C at h
 dsimp only at h
 split at h
 ·cases h; exact Zy_holds
 ·cases h; exact Zae_holds
 ·cases h; exact Zt_holds
 ·cases h
theorem Zbj_holds : Con.Holds Tryd.prog glob 56 Zbj_c :=
 fn_holds (C:=Zbj_C) (A:=Zbj_As) (outs:=[(.tmp 4,true,.bool)]) seat_ok Zbj_cons (by kernel_rfl) (by kernel_rfl) Zbj_loops (by kernel_rfl) (by kernel_rfl) Zbj_eq
def Zaw_P : List (LoopPf Zaw_C Zaw_As (bodyOf Tryd.f55)):=[]
theorem Zaw_loops : LoopsOK Zaw_C Zaw_As (loopsIn (bodyOf Tryd.f55)):=loops_ok Zaw_P (by kernel_rfl) (by kernel_rfl)
theorem Zaw_cons : ∀ f site c,(Zaw_C).con f site=some c→c.Holds Tryd.prog (Zaw_C).glob f:=by
 intro f site c h
 unfold Zaw_C at h
 dsimp only at h
 split at h
 ·cases h; exact Zbj_holds
 ·cases h; exact Zag_holds
 ·cases h; exact Zae_holds
 ·cases h
theorem Zaw_holds : Con.Holds Tryd.prog glob 55 Zaw_c :=
 fn_holds (C:=Zaw_C) (A:=Zaw_As) (outs:=[(.tmp 4,true,.bool)]) seat_ok Zaw_cons (by kernel_rfl) (by kernel_rfl) Zaw_loops (by kernel_rfl) (by kernel_rfl) Zaw_eq
def Zak_P : List (LoopPf Zak_C Zak_As (bodyOf Tryd.f36)):=[]
theorem Zak_loops : LoopsOK Zak_C Zak_As (loopsIn (bodyOf Tryd.f36)):=loops_ok Zak_P (by kernel_rfl) (by kernel_rfl)
theorem Zak_cons : ∀ f site c,(Zak_C).con f site=some c→c.Holds Tryd.prog (Zak_C).glob f:=by
 intro f site c h
 unfold Zak_C at h
 dsimp only at h
 split at h
 ·cases h; exact Zaw_holds
 ·cases h; exact Zbj_holds
 ·cases h
theorem Zak_holds : Con.Holds Tryd.prog glob 36 Zak_c :=
 fn_holds (C:=Zak_C) (A:=Zak_As) (outs:=[(.tmp 8,true,.bool)]) seat_ok Zak_cons (by kernel_rfl) (by kernel_rfl) Zak_loops (by kernel_rfl) (by kernel_rfl) Zak_eq
def Zan_P : List (LoopPf Zan_C Zan_As (bodyOf Tryd.f17)):=[⟨5,Zan_A5,Zan_B5,rfl,Zan_R5⟩,⟨10,Zan_A10,Zan_B10,rfl,Zan_R10⟩,⟨15,Zan_A15,Zan_B15,rfl,Zan_R15⟩,⟨20,Zan_A20,Zan_B20,rfl,Zan_R20⟩,⟨23,Zan_A23,Zan_B23,rfl,Zan_R23⟩]
theorem Zan_loops : LoopsOK Zan_C Zan_As (loopsIn (bodyOf Tryd.f17)):=loops_ok Zan_P (by kernel_rfl) (by kernel_rfl)
theorem Zan_cons : ∀ f site c,(Zan_C).con f site=some c→c.Holds Tryd.prog (Zan_C).glob f:=by
 intro f site c h
 unfold Zan_C at h
 dsimp only at h
 split at h
 ·cases h; exact Zf_holds
 ·cases h; exact Zy_holds
 ·cases h; exact Zw_holds
 ·cases h; exact Zav_holds
 ·cases h; exact Zak_holds
 ·cases h
theorem Zan_holds : Con.Holds Tryd.prog glob 17 Zan_c :=
 fn_holds (C:=Zan_C) (A:=Zan_As) (outs:=[(.tmp 4,true,.bool)]) seat_ok Zan_cons (by kernel_rfl) (by kernel_rfl) Zan_loops (by kernel_rfl) (by kernel_rfl) Zan_eq
def Zc_P : List (LoopPf Zc_C Zc_As (bodyOf Tryd.f5)):=[]
def Zd_P : List (LoopPf Zd_C Zd_As (bodyOf Tryd.f6)):=[⟨10,Zd_A10,Zd_B10,rfl,Zd_R10⟩,⟨14,Zd_A14,Zd_B14,rfl,Zd_R14⟩]
theorem Zd_loops : LoopsOK Zd_C Zd_As (loopsIn (bodyOf Tryd.f6)):=loops_ok Zd_P (by kernel_rfl) (by kernel_rfl)
theorem Zd_cons : ∀ f site c,(Zd_C).con f site=some c→c.Holds Tryd.prog (Zd_C).glob f:=by
 intro f site c h
 unfold Zd_C at h
 dsimp only at h
 split at h
 ·cases h; exact Zad_holds
 ·cases h; exact Zaj_holds
 ·cases h; exact Zbs_holds
 ·cases h; exact Zbt_holds
 ·cases h; exact Zan_holds
 ·cases h; exact Ze_holds
 ·cases h
theorem Zd_holds : Con.Holds Tryd.prog glob 6 Zd_c :=
 fn_holds (C:=Zd_C) (A:=Zd_As) (outs:=[(.tmp 4,true,.bool)]) seat_ok Zd_cons (by kernel_rfl) (by kernel_rfl) Zd_loops (by kernel_rfl) (by kernel_rfl) Zd_eq
end
end Go.Vm
