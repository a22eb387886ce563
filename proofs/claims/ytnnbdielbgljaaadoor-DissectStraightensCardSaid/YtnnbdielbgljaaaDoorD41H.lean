/-
 Contracts of the functions that the law reaches.
-/
import Derived.Test.YtnnbdielbgljaaaDoorD41
import Derived.Test.YtnnbdielbgljaaaDoorVmD
import Derived.Test.YtnnbdielbgljaaaDoorS41
set_option linter.unusedVariables false
set_option linter.unusedSimpArgs false
namespace Go.Vm
open Go.Proofs
noncomputable section
set_option maxRecDepth 100000
theorem seat_ok : SeatOK Tryd.prog tab eqs:=⟨by kernel_rfl,by kernel_rfl,by kernel_rfl⟩
def Zaq_P : List (LoopPf Zaq_C Zaq_As (bodyOf Tryd.f23)):=[⟨4,Zaq_A4,Zaq_B4,rfl,Zaq_R4⟩]
theorem Zaq_loops : LoopsOK Zaq_C Zaq_As (loopsIn (bodyOf Tryd.f23)):=loops_ok Zaq_P (by kernel_rfl) (by kernel_rfl)
theorem Zaq_cons : ∀ f site c,(Zaq_C).con f site=some c→c.Holds Tryd.prog (Zaq_C).glob f:=by
 intro f site c h; cases h
theorem Zaq_holds : Con.Holds Tryd.prog glob 23 Zaq_c :=
 fn_holds (C:=Zaq_C) (A:=Zaq_As) (outs:=[(.tmp 2,true,.bool)]) seat_ok Zaq_cons (by kernel_rfl) (by kernel_rfl) Zaq_loops (by kernel_rfl) (by kernel_rfl) Zaq_eq
def Zao_P : List (LoopPf Zao_C Zao_As (bodyOf Tryd.f8)):=[⟨5,Zao_A5,Zao_B5,rfl,Zao_R5⟩]
theorem Zao_loops : LoopsOK Zao_C Zao_As (loopsIn (bodyOf Tryd.f8)):=loops_ok Zao_P (by kernel_rfl) (by kernel_rfl)
theorem Zao_cons : ∀ f site c,(Zao_C).con f site=some c→c.Holds Tryd.prog (Zao_C).glob f:=by
 intro f site c h
 unfold Zao_C at h
 dsimp only at h
 split at h
 ·cases h; exact Zaq_holds
 ·cases h
theorem Zao_holds : Con.Holds Tryd.prog glob 8 Zao_c :=
 fn_holds (C:=Zao_C) (A:=Zao_As) (outs:=[(.tmp 2,true,.bool)]) seat_ok Zao_cons (by kernel_rfl) (by kernel_rfl) Zao_loops (by kernel_rfl) (by kernel_rfl) Zao_eq
def Zbh_P : List (LoopPf Zbh_C Zbh_As (bodyOf Tryd.f81)):=[]
theorem Zbh_loops : LoopsOK Zbh_C Zbh_As (loopsIn (bodyOf Tryd.f81)):=loops_ok Zbh_P (by kernel_rfl) (by kernel_rfl)
theorem Zbh_cons : ∀ f site c,(Zbh_C).con f site=some c→c.Holds Tryd.prog (Zbh_C).glob f:=by
 intro f site c h; cases h
theorem Zbh_holds : Con.Holds Tryd.prog glob 81 Zbh_c :=
 fn_holds (C:=Zbh_C) (A:=Zbh_As) (outs:=[(.tmp 4,true,I)]) seat_ok Zbh_cons (by kernel_rfl) (by kernel_rfl) Zbh_loops (by kernel_rfl) (by kernel_rfl) Zbh_eq
def Zau_P : List (LoopPf Zau_C Zau_As (bodyOf Tryd.f64)):=[⟨4,Zau_A4,Zau_B4,rfl,Zau_R4⟩,⟨12,Zau_A12,Zau_B12,rfl,Zau_R12⟩,⟨15,Zau_A15,Zau_B15,rfl,Zau_R15⟩]
theorem Zau_loops : LoopsOK Zau_C Zau_As (loopsIn (bodyOf Tryd.f64)):=loops_ok Zau_P (by kernel_rfl) (by kernel_rfl)
theorem Zau_cons : ∀ f site c,(Zau_C).con f site=some c→c.Holds Tryd.prog (Zau_C).glob f:=by
 intro f site c h
 unfold Zau_C at h
 dsimp only at h
 split at h
 ·cases h; exact Zbh_holds
 ·cases h
theorem Zau_holds : Con.Holds Tryd.prog glob 64 Zau_c :=
 fn_holds (C:=Zau_C) (A:=Zau_As) (outs:=[(.tmp 2,true,.bool)]) seat_ok Zau_cons (by kernel_rfl) (by kernel_rfl) Zau_loops (by kernel_rfl) (by kernel_rfl) Zau_eq
def Zbe_P : List (LoopPf Zbe_C Zbe_As (bodyOf Tryd.f59)):=[]
theorem Zbe_loops : LoopsOK Zbe_C Zbe_As (loopsIn (bodyOf Tryd.f59)):=loops_ok Zbe_P (by kernel_rfl) (by kernel_rfl)
theorem Zbe_cons : ∀ f site c,(Zbe_C).con f site=some c→c.Holds Tryd.prog (Zbe_C).glob f:=by
 intro f site c h
 unfold Zbe_C at h
 dsimp only at h
 split at h
 ·cases h; exact Zau_holds
 ·cases h; exact Zbh_holds
 ·cases h
theorem Zbe_holds : Con.Holds Tryd.prog glob 59 Zbe_c :=
 fn_holds (C:=Zbe_C) (A:=Zbe_As) (outs:=[(.tmp 4,true,I)]) seat_ok Zbe_cons (by kernel_rfl) (by kernel_rfl) Zbe_loops (by kernel_rfl) (by kernel_rfl) Zbe_eq
def Zan_P : List (LoopPf Zan_C Zan_As (bodyOf Tryd.f72)):=[⟨6,Zan_A6,Zan_B6,rfl,Zan_R6⟩,⟨11,Zan_A11,Zan_B11,rfl,Zan_R11⟩]
theorem Zan_loops : LoopsOK Zan_C Zan_As (loopsIn (bodyOf Tryd.f72)):=loops_ok Zan_P (by kernel_rfl) (by kernel_rfl)
theorem Zan_cons : ∀ f site c,(Zan_C).con f site=some c→c.Holds Tryd.prog (Zan_C).glob f:=by
 intro f site c h
 unfold Zan_C at h
 dsimp only at h
 split at h
 ·cases h; exact Zbe_holds
 ·cases h
theorem Zan_holds : Con.Holds Tryd.prog glob 72 Zan_c :=
 fn_holds (C:=Zan_C) (A:=Zan_As) (outs:=[(.tmp 2,true,.bool)]) seat_ok Zan_cons (by kernel_rfl) (by kernel_rfl) Zan_loops (by kernel_rfl) (by kernel_rfl) Zan_eq
def Zap_P : List (LoopPf Zap_C Zap_As (bodyOf Tryd.f65)):=[⟨3,Zap_A3,Zap_B3,rfl,Zap_R3⟩,⟨6,Zap_A6,Zap_B6,rfl,Zap_R6⟩]
theorem Zap_loops : LoopsOK Zap_C Zap_As (loopsIn (bodyOf Tryd.f65)):=loops_ok Zap_P (by kernel_rfl) (by kernel_rfl)
theorem Zap_cons : ∀ f site c,(Zap_C).con f site=some c→c.Holds Tryd.prog (Zap_C).glob f:=by
 intro f site c h; cases h
theorem Zap_holds : Con.Holds Tryd.prog glob 65 Zap_c :=
 fn_holds (C:=Zap_C) (A:=Zap_As) (outs:=[(.tmp 2,true,(.slice I))]) seat_ok Zap_cons (by kernel_rfl) (by kernel_rfl) Zap_loops (by kernel_rfl) (by kernel_rfl) Zap_eq
def Zaw_P : List (LoopPf Zaw_C Zaw_As (bodyOf Tryd.f39)):=[⟨7,Zaw_A7,Zaw_B7,rfl,Zaw_R7⟩,⟨11,Zaw_A11,Zaw_B11,rfl,Zaw_R11⟩]
theorem Zaw_loops : LoopsOK Zaw_C Zaw_As (loopsIn (bodyOf Tryd.f39)):=loops_ok Zaw_P (by kernel_rfl) (by kernel_rfl)
theorem Zaw_cons : ∀ f site c,(Zaw_C).con f site=some c→c.Holds Tryd.prog (Zaw_C).glob f:=by
 intro f site c h
 unfold Zaw_C at h
 dsimp only at h
 split at h
 ·cases h; exact Zau_holds
 ·cases h; exact Zap_holds
 ·cases h
theorem Zaw_holds : Con.Holds Tryd.prog glob 39 Zaw_c :=
 fn_holds (C:=Zaw_C) (A:=Zaw_As) (outs:=[(.tmp 2,true,(.slice (.slice I)))]) seat_ok Zaw_cons (by kernel_rfl) (by kernel_rfl) Zaw_loops (by kernel_rfl) (by kernel_rfl) Zaw_eq
def Zj_P : List (LoopPf Zj_C Zj_As (bodyOf Tryd.f86)):=[⟨4,Zj_A4,Zj_B4,rfl,Zj_R4⟩,⟨10,Zj_A10,Zj_B10,rfl,Zj_R10⟩,⟨13,Zj_A13,Zj_B13,rfl,Zj_R13⟩]
theorem Zj_loops : LoopsOK Zj_C Zj_As (loopsIn (bodyOf Tryd.f86)):=loops_ok Zj_P (by kernel_rfl) (by kernel_rfl)
theorem Zj_cons : ∀ f site c,(Zj_C).con f site=some c→c.Holds Tryd.prog (Zj_C).glob f:=by
 intro f site c h
 unfold Zj_C at h
 dsimp only at h
 split at h
 ·cases h; exact Zbh_holds
 ·cases h
theorem Zj_holds : Con.Holds Tryd.prog glob 86 Zj_c :=
 fn_holds (C:=Zj_C) (A:=Zj_As) (outs:=[(.tmp 2,true,I)]) seat_ok Zj_cons (by kernel_rfl) (by kernel_rfl) Zj_loops (by kernel_rfl) (by kernel_rfl) Zj_eq
def Zat_P : List (LoopPf Zat_C Zat_As (bodyOf Tryd.f73)):=[⟨5,Zat_A5,Zat_B5,rfl,Zat_R5⟩]
theorem Zat_loops : LoopsOK Zat_C Zat_As (loopsIn (bodyOf Tryd.f73)):=loops_ok Zat_P (by kernel_rfl) (by kernel_rfl)
theorem Zat_cons : ∀ f site c,(Zat_C).con f site=some c→c.Holds Tryd.prog (Zat_C).glob f:=by
 intro f site c h
 unfold Zat_C at h
 dsimp only at h
 split at h
 ·cases h; exact Zaw_holds
 ·cases h; exact Zau_holds
 ·cases h; exact Zj_holds
 ·cases h
theorem Zat_holds : Con.Holds Tryd.prog glob 73 Zat_c :=
 fn_holds (C:=Zat_C) (A:=Zat_As) (outs:=[(.tmp 2,true,I)]) seat_ok Zat_cons (by kernel_rfl) (by kernel_rfl) Zat_loops (by kernel_rfl) (by kernel_rfl) Zat_eq
def Zbi_P : List (LoopPf Zbi_C Zbi_As (bodyOf Tryd.f74)):=[⟨2,Zbi_A2,Zbi_B2,rfl,Zbi_R2⟩,⟨6,Zbi_A6,Zbi_B6,rfl,Zbi_R6⟩]
theorem Zbi_loops : LoopsOK Zbi_C Zbi_As (loopsIn (bodyOf Tryd.f74)):=loops_ok Zbi_P (by kernel_rfl) (by kernel_rfl)
theorem Zbi_cons : ∀ f site c,(Zbi_C).con f site=some c→c.Holds Tryd.prog (Zbi_C).glob f:=by
 intro f site c h; cases h
theorem Zbi_holds : Con.Holds Tryd.prog glob 74 Zbi_c :=
 fn_holds (C:=Zbi_C) (A:=Zbi_As) (outs:=[(.tmp 2,true,.bool)]) seat_ok Zbi_cons (by kernel_rfl) (by kernel_rfl) Zbi_loops (by kernel_rfl) (by kernel_rfl) Zbi_eq
def Zbg_P : List (LoopPf Zbg_C Zbg_As (bodyOf Tryd.f87)):=[]
theorem Zbg_loops : LoopsOK Zbg_C Zbg_As (loopsIn (bodyOf Tryd.f87)):=loops_ok Zbg_P (by kernel_rfl) (by kernel_rfl)
theorem Zbg_cons : ∀ f site c,(Zbg_C).con f site=some c→c.Holds Tryd.prog (Zbg_C).glob f:=by
 intro f site c h; cases h
theorem Zbg_holds : Con.Holds Tryd.prog glob 87 Zbg_c :=
 fn_holds (C:=Zbg_C) (A:=Zbg_As) (outs:=[(.tmp 2,true,(.int .u8)),(.tmp 3,true,.bool)]) seat_ok Zbg_cons (by kernel_rfl) (by kernel_rfl) Zbg_loops (by kernel_rfl) (by kernel_rfl) Zbg_eq
def Zbr_P : List (LoopPf Zbr_C Zbr_As (bodyOf Tryd.f75)):=[⟨4,Zbr_A4,Zbr_B4,rfl,Zbr_R4⟩]
theorem Zbr_loops : LoopsOK Zbr_C Zbr_As (loopsIn (bodyOf Tryd.f75)):=loops_ok Zbr_P (by kernel_rfl) (by kernel_rfl)
theorem Zbr_cons : ∀ f site c,(Zbr_C).con f site=some c→c.Holds Tryd.prog (Zbr_C).glob f:=by
 intro f site c h
 unfold Zbr_C at h
 dsimp only at h
 split at h
 ·cases h; exact Zbg_holds
 ·cases h
theorem Zbr_holds : Con.Holds Tryd.prog glob 75 Zbr_c :=
 fn_holds (C:=Zbr_C) (A:=Zbr_As) (outs:=[(.tmp 2,true,.bool)]) seat_ok Zbr_cons (by kernel_rfl) (by kernel_rfl) Zbr_loops (by kernel_rfl) (by kernel_rfl) Zbr_eq
def Zi_P : List (LoopPf Zi_C Zi_As (bodyOf Tryd.f88)):=[⟨1,Zi_A1,Zi_B1,rfl,Zi_R1⟩]
theorem Zi_loops : LoopsOK Zi_C Zi_As (loopsIn (bodyOf Tryd.f88)):=loops_ok Zi_P (by kernel_rfl) (by kernel_rfl)
theorem Zi_cons : ∀ f site c,(Zi_C).con f site=some c→c.Holds Tryd.prog (Zi_C).glob f:=by
 intro f site c h; cases h
theorem Zi_holds : Con.Holds Tryd.prog glob 88 Zi_c :=
 fn_holds (C:=Zi_C) (A:=Zi_As) (outs:=[]) seat_ok Zi_cons (by kernel_rfl) (by kernel_rfl) Zi_loops (by kernel_rfl) (by kernel_rfl) Zi_eq
def Zbd_P : List (LoopPf Zbd_C Zbd_As (bodyOf Tryd.f76)):=[⟨4,Zbd_A4,Zbd_B4,rfl,Zbd_R4⟩]
theorem Zbd_loops : LoopsOK Zbd_C Zbd_As (loopsIn (bodyOf Tryd.f76)):=loops_ok Zbd_P (by kernel_rfl) (by kernel_rfl)
theorem Zbd_cons : ∀ f site c,(Zbd_C).con f site=some c→c.Holds Tryd.prog (Zbd_C).glob f:=by
 intro f site c h
 unfold Zbd_C at h
 dsimp only at h
 split at h
 ·cases h; exact Zbg_holds
 ·cases h; exact Zi_holds
 ·cases h
theorem Zbd_holds : Con.Holds Tryd.prog glob 76 Zbd_c :=
 fn_holds (C:=Zbd_C) (A:=Zbd_As) (outs:=[(.tmp 2,true,.str)]) seat_ok Zbd_cons (by kernel_rfl) (by kernel_rfl) Zbd_loops (by kernel_rfl) (by kernel_rfl) Zbd_eq
def Zad_P : List (LoopPf Zad_C Zad_As (bodyOf Tryd.f66)):=[⟨2,Zad_A2,Zad_B2,rfl,Zad_R2⟩]
theorem Zad_loops : LoopsOK Zad_C Zad_As (loopsIn (bodyOf Tryd.f66)):=loops_ok Zad_P (by kernel_rfl) (by kernel_rfl)
theorem Zad_cons : ∀ f site c,(Zad_C).con f site=some c→c.Holds Tryd.prog (Zad_C).glob f:=by
 intro f site c h; cases h
theorem Zad_holds : Con.Holds Tryd.prog glob 66 Zad_c :=
 fn_holds (C:=Zad_C) (A:=Zad_As) (outs:=[(.tmp 4,true,I)]) seat_ok Zad_cons (by kernel_rfl) (by kernel_rfl) Zad_loops (by kernel_rfl) (by kernel_rfl) Zad_eq
def Zk_P : List (LoopPf Zk_C Zk_As (bodyOf Tryd.f40)):=[]
theorem Zk_loops : LoopsOK Zk_C Zk_As (loopsIn (bodyOf Tryd.f40)):=loops_ok Zk_P (by kernel_rfl) (by kernel_rfl)
theorem Zk_cons : ∀ f site c,(Zk_C).con f site=some c→c.Holds Tryd.prog (Zk_C).glob f:=by
 intro f site c h
 unfold Zk_C at h
 dsimp only at h
 split at h
 ·cases h; exact Zad_holds
 ·cases h
theorem Zk_holds : Con.Holds Tryd.prog glob 40 Zk_c :=
 fn_holds (C:=Zk_C) (A:=Zk_As) (outs:=[(.tmp 4,true,.bool)]) seat_ok Zk_cons (by kernel_rfl) (by kernel_rfl) Zk_loops (by kernel_rfl) (by kernel_rfl) Zk_eq
def Zbs_P : List (LoopPf Zbs_C Zbs_As (bodyOf Tryd.f89)):=[⟨3,Zbs_A3,Zbs_B3,rfl,Zbs_R3⟩]
theorem Zbs_loops : LoopsOK Zbs_C Zbs_As (loopsIn (bodyOf Tryd.f89)):=loops_ok Zbs_P (by kernel_rfl) (by kernel_rfl)
theorem Zbs_cons : ∀ f site c,(Zbs_C).con f site=some c→c.Holds Tryd.prog (Zbs_C).glob f:=by
 intro f site c h; cases h
theorem Zbs_holds : Con.Holds Tryd.prog glob 89 Zbs_c :=
 fn_holds (C:=Zbs_C) (A:=Zbs_As) (outs:=[(.tmp 4,true,I)]) seat_ok Zbs_cons (by kernel_rfl) (by kernel_rfl) Zbs_loops (by kernel_rfl) (by kernel_rfl) Zbs_eq
def Zbl_P : List (LoopPf Zbl_C Zbl_As (bodyOf Tryd.f77)):=[⟨3,Zbl_A3,Zbl_B3,rfl,Zbl_R3⟩]
theorem Zbl_loops : LoopsOK Zbl_C Zbl_As (loopsIn (bodyOf Tryd.f77)):=loops_ok Zbl_P (by kernel_rfl) (by kernel_rfl)
theorem Zbl_cons : ∀ f site c,(Zbl_C).con f site=some c→c.Holds Tryd.prog (Zbl_C).glob f:=by
 intro f site c h
 unfold Zbl_C at h
 dsimp only at h
 split at h
 ·cases h; exact Zbs_holds
 ·cases h
theorem Zbl_holds : Con.Holds Tryd.prog glob 77 Zbl_c :=
 fn_holds (C:=Zbl_C) (A:=Zbl_As) (outs:=[(.tmp 4,true,I)]) seat_ok Zbl_cons (by kernel_rfl) (by kernel_rfl) Zbl_loops (by kernel_rfl) (by kernel_rfl) Zbl_eq
def Zbq_P : List (LoopPf Zbq_C Zbq_As (bodyOf Tryd.f50)):=[⟨8,Zbq_A8,Zbq_B8,rfl,Zbq_R8⟩,⟨13,Zbq_A13,Zbq_B13,rfl,Zbq_R13⟩]
theorem Zbq_loops : LoopsOK Zbq_C Zbq_As (loopsIn (bodyOf Tryd.f50)):=loops_ok Zbq_P (by kernel_rfl) (by kernel_rfl)
theorem Zbq_cons : ∀ f site c,(Zbq_C).con f site=some c→c.Holds Tryd.prog (Zbq_C).glob f:=by
 intro f site c h
 unfold Zbq_C at h
 dsimp only at h
 split at h
 ·cases h; exact Zaw_holds
 ·cases h; exact Zk_holds
 ·cases h; exact Zau_holds
 ·cases h; exact Zan_holds
 ·cases h; exact Zat_holds
 ·cases h; exact Zbi_holds
 ·cases h; exact Zbr_holds
 ·cases h; exact Zbd_holds
 ·cases h; exact Zbl_holds
 ·cases h
theorem Zbq_holds : Con.Holds Tryd.prog glob 50 Zbq_c :=
 fn_holds (C:=Zbq_C) (A:=Zbq_As) (outs:=[(.tmp 2,true,.bool)]) seat_ok Zbq_cons (by kernel_rfl) (by kernel_rfl) Zbq_loops (by kernel_rfl) (by kernel_rfl) Zbq_eq
def Zbo_P : List (LoopPf Zbo_C Zbo_As (bodyOf Tryd.f25)):=[]
theorem Zbo_loops : LoopsOK Zbo_C Zbo_As (loopsIn (bodyOf Tryd.f25)):=loops_ok Zbo_P (by kernel_rfl) (by kernel_rfl)
theorem Zbo_cons : ∀ f site c,(Zbo_C).con f site=some c→c.Holds Tryd.prog (Zbo_C).glob f:=by
 intro f site c h
 unfold Zbo_C at h
 dsimp only at h
 split at h
 ·cases h; exact Zbq_holds
 ·cases h
theorem Zbo_holds : Con.Holds Tryd.prog glob 25 Zbo_c :=
 fn_holds (C:=Zbo_C) (A:=Zbo_As) (outs:=[(.tmp 2,true,I)]) seat_ok Zbo_cons (by kernel_rfl) (by kernel_rfl) Zbo_loops (by kernel_rfl) (by kernel_rfl) Zbo_eq
def Zaz_P : List (LoopPf Zaz_C Zaz_As (bodyOf Tryd.f26)):=[⟨3,Zaz_A3,Zaz_B3,rfl,Zaz_R3⟩,⟨8,Zaz_A8,Zaz_B8,rfl,Zaz_R8⟩]
theorem Zaz_loops : LoopsOK Zaz_C Zaz_As (loopsIn (bodyOf Tryd.f26)):=loops_ok Zaz_P (by kernel_rfl) (by kernel_rfl)
theorem Zaz_cons : ∀ f site c,(Zaz_C).con f site=some c→c.Holds Tryd.prog (Zaz_C).glob f:=by
 intro f site c h; cases h
theorem Zaz_holds : Con.Holds Tryd.prog glob 26 Zaz_c :=
 fn_holds (C:=Zaz_C) (A:=Zaz_As) (outs:=[(.tmp 6,true,(.slice I))]) seat_ok Zaz_cons (by kernel_rfl) (by kernel_rfl) Zaz_loops (by kernel_rfl) (by kernel_rfl) Zaz_eq
def Zf_P : List (LoopPf Zf_C Zf_As (bodyOf Tryd.f27)):=[]
theorem Zf_loops : LoopsOK Zf_C Zf_As (loopsIn (bodyOf Tryd.f27)):=loops_ok Zf_P (by kernel_rfl) (by kernel_rfl)
theorem Zf_cons : ∀ f site c,(Zf_C).con f site=some c→c.Holds Tryd.prog (Zf_C).glob f:=by
 intro f site c h; cases h
theorem Zf_holds : Con.Holds Tryd.prog glob 27 Zf_c :=
 fn_holds (C:=Zf_C) (A:=Zf_As) (outs:=[(.tmp 3,true,I)]) seat_ok Zf_cons (by kernel_rfl) (by kernel_rfl) Zf_loops (by kernel_rfl) (by kernel_rfl) Zf_eq
def Zo_P : List (LoopPf Zo_C Zo_As (bodyOf Tryd.f10)):=[⟨7,Zo_A7,Zo_B7,rfl,Zo_R7⟩,⟨12,Zo_A12,Zo_B12,rfl,Zo_R12⟩,⟨27,Zo_A27,Zo_B27,rfl,Zo_R27⟩,⟨31,Zo_A31,Zo_B31,rfl,Zo_R31⟩]
theorem Zo_loops : LoopsOK Zo_C Zo_As (loopsIn (bodyOf Tryd.f10)):=loops_ok Zo_P (by kernel_rfl) (by kernel_rfl)
theorem Zo_cons : ∀ f site c,(Zo_C).con f site=some c→c.Holds Tryd.prog (Zo_C).glob f:=by
 intro f site c h
 unfold Zo_C at h
 dsimp only at h
 split at h
 ·cases h; exact Zbo_holds
 ·cases h; exact Zaz_holds
 ·cases h; exact Zf_holds
 ·cases h
theorem Zo_holds : Con.Holds Tryd.prog glob 10 Zo_c :=
 fn_holds (C:=Zo_C) (A:=Zo_As) (outs:=[(.cell 2 29,true,(.prod (.prod I (.prod (.slice (.prod I (.prod I .unit))) (.prod (.slice (.slice I)) .unit))) (.prod (.slice I) (.prod (.slice .str) (.prod I .unit))))),(.tmp 3,true,(.slice (.slice I))),(.tmp 4,true,I)]) seat_ok Zo_cons (by kernel_rfl) (by kernel_rfl) Zo_loops (by kernel_rfl) (by kernel_rfl) Zo_eq
def Zbn_P : List (LoopPf Zbn_C Zbn_As (bodyOf Tryd.f36)):=[⟨5,Zbn_A5,Zbn_B5,rfl,Zbn_R5⟩]
theorem Zbn_loops : LoopsOK Zbn_C Zbn_As (loopsIn (bodyOf Tryd.f36)):=loops_ok Zbn_P (by kernel_rfl) (by kernel_rfl)
theorem Zbn_cons : ∀ f site c,(Zbn_C).con f site=some c→c.Holds Tryd.prog (Zbn_C).glob f:=by
 intro f site c h
 unfold Zbn_C at h
 dsimp only at h
 split at h
 ·cases h; exact Zbq_holds
 ·cases h
theorem Zbn_holds : Con.Holds Tryd.prog glob 36 Zbn_c :=
 fn_holds (C:=Zbn_C) (A:=Zbn_As) (outs:=[(.tmp 2,true,I)]) seat_ok Zbn_cons (by kernel_rfl) (by kernel_rfl) Zbn_loops (by kernel_rfl) (by kernel_rfl) Zbn_eq
def Zav_P : List (LoopPf Zav_C Zav_As (bodyOf Tryd.f37)):=[]
theorem Zav_loops : LoopsOK Zav_C Zav_As (loopsIn (bodyOf Tryd.f37)):=loops_ok Zav_P (by kernel_rfl) (by kernel_rfl)
theorem Zav_cons : ∀ f site c,(Zav_C).con f site=some c→c.Holds Tryd.prog (Zav_C).glob f:=by
 intro f site c h; cases h
theorem Zav_holds : Con.Holds Tryd.prog glob 37 Zav_c :=
 fn_holds (C:=Zav_C) (A:=Zav_As) (outs:=[(.cell 0 29,true,(.prod (.prod I (.prod (.slice (.prod I (.prod I .unit))) (.prod (.slice (.slice I)) .unit))) (.prod (.slice I) (.prod (.slice .str) (.prod I .unit)))))]) seat_ok Zav_cons (by kernel_rfl) (by kernel_rfl) Zav_loops (by kernel_rfl) (by kernel_rfl) Zav_eq
def Zbf_P : List (LoopPf Zbf_C Zbf_As (bodyOf Tryd.f58)):=[]
theorem Zbf_loops : LoopsOK Zbf_C Zbf_As (loopsIn (bodyOf Tryd.f58)):=loops_ok Zbf_P (by kernel_rfl) (by kernel_rfl)
theorem Zbf_cons : ∀ f site c,(Zbf_C).con f site=some c→c.Holds Tryd.prog (Zbf_C).glob f:=by
 intro f site c h
 unfold Zbf_C at h
 dsimp only at h
 split at h
 ·cases h; exact Zau_holds
 ·cases h; exact Zad_holds
 ·cases h; exact Zbh_holds
 ·cases h
theorem Zbf_holds : Con.Holds Tryd.prog glob 58 Zbf_c :=
 fn_holds (C:=Zbf_C) (A:=Zbf_As) (outs:=[(.tmp 4,true,I)]) seat_ok Zbf_cons (by kernel_rfl) (by kernel_rfl) Zbf_loops (by kernel_rfl) (by kernel_rfl) Zbf_eq
def Zag_P : List (LoopPf Zag_C Zag_As (bodyOf Tryd.f57)):=[⟨2,Zag_A2,Zag_B2,rfl,Zag_R2⟩]
theorem Zag_loops : LoopsOK Zag_C Zag_As (loopsIn (bodyOf Tryd.f57)):=loops_ok Zag_P (by kernel_rfl) (by kernel_rfl)
theorem Zag_cons : ∀ f site c,(Zag_C).con f site=some c→c.Holds Tryd.prog (Zag_C).glob f:=by
 intro f site c h
 unfold Zag_C at h
 dsimp only at h
 split at h
 ·cases h; exact Zbf_holds
 ·cases h
theorem Zag_holds : Con.Holds Tryd.prog glob 57 Zag_c :=
 fn_holds (C:=Zag_C) (A:=Zag_As) (outs:=[(.tmp 6,true,.bool)]) seat_ok Zag_cons (by kernel_rfl) (by kernel_rfl) Zag_loops (by kernel_rfl) (by kernel_rfl) Zag_eq
def Zal_P : List (LoopPf Zal_C Zal_As (bodyOf Tryd.f60)):=[]
theorem Zal_loops : LoopsOK Zal_C Zal_As (loopsIn (bodyOf Tryd.f60)):=loops_ok Zal_P (by kernel_rfl) (by kernel_rfl)
theorem Zal_cons : ∀ f site c,(Zal_C).con f site=some c→c.Holds Tryd.prog (Zal_C).glob f:=by
 intro f site c h; cases h
theorem Zal_holds : Con.Holds Tryd.prog glob 60 Zal_c :=
 fn_holds (C:=Zal_C) (A:=Zal_As) (outs:=[(.tmp 2,true,(.slice (.prod I (.prod I .unit))))]) seat_ok Zal_cons (by kernel_rfl) (by kernel_rfl) Zal_loops (by kernel_rfl) (by kernel_rfl) Zal_eq
def Ze_P : List (LoopPf Ze_C Ze_As (bodyOf Tryd.f61)):=[]
theorem Ze_loops : LoopsOK Ze_C Ze_As (loopsIn (bodyOf Tryd.f61)):=loops_ok Ze_P (by kernel_rfl) (by kernel_rfl)
theorem Ze_cons : ∀ f site c,(Ze_C).con f site=some c→c.Holds Tryd.prog (Ze_C).glob f:=by
 intro f site c h; cases h
theorem Ze_holds : Con.Holds Tryd.prog glob 61 Ze_c :=
 fn_holds (C:=Ze_C) (A:=Ze_As) (outs:=[(.tmp 2,true,(.slice (.slice I)))]) seat_ok Ze_cons (by kernel_rfl) (by kernel_rfl) Ze_loops (by kernel_rfl) (by kernel_rfl) Ze_eq
def Zai_P : List (LoopPf Zai_C Zai_As (bodyOf Tryd.f62)):=[]
theorem Zai_loops : LoopsOK Zai_C Zai_As (loopsIn (bodyOf Tryd.f62)):=loops_ok Zai_P (by kernel_rfl) (by kernel_rfl)
theorem Zai_cons : ∀ f site c,(Zai_C).con f site=some c→c.Holds Tryd.prog (Zai_C).glob f:=by
 intro f site c h; cases h
theorem Zai_holds : Con.Holds Tryd.prog glob 62 Zai_c :=
 fn_holds (C:=Zai_C) (A:=Zai_As) (outs:=[(.tmp 2,true,(.slice I))]) seat_ok Zai_cons (by kernel_rfl) (by kernel_rfl) Zai_loops (by kernel_rfl) (by kernel_rfl) Zai_eq
theorem Zv_holds : Con.Holds Tryd.prog glob 82 Zv_c:=insert_at
def Zbm_P : List (LoopPf Zbm_C Zbm_As (bodyOf Tryd.f63)):=[]
theorem Zbm_loops : LoopsOK Zbm_C Zbm_As (loopsIn (bodyOf Tryd.f63)):=loops_ok Zbm_P (by kernel_rfl) (by kernel_rfl)
theorem Zbm_cons : ∀ f site c,(Zbm_C).con f site=some c→c.Holds Tryd.prog (Zbm_C).glob f:=by
 intro f site c h
 unfold Zbm_C at h
 dsimp only at h
 split at h
 ·cases h; exact Zai_holds
 ·cases h; exact Zad_holds
 ·cases h; exact Zv_holds
 ·cases h
theorem Zbm_holds : Con.Holds Tryd.prog glob 63 Zbm_c :=
 fn_holds (C:=Zbm_C) (A:=Zbm_As) (outs:=[(.tmp 6,true,(.slice I))]) seat_ok Zbm_cons (by kernel_rfl) (by kernel_rfl) Zbm_loops (by kernel_rfl) (by kernel_rfl) Zbm_eq
def Zar_P : List (LoopPf Zar_C Zar_As (bodyOf Tryd.f38)):=[⟨3,Zar_A3,Zar_B3,rfl,Zar_R3⟩]
theorem Zar_loops : LoopsOK Zar_C Zar_As (loopsIn (bodyOf Tryd.f38)):=loops_ok Zar_P (by kernel_rfl) (by kernel_rfl)
theorem Zar_cons : ∀ f site c,(Zar_C).con f site=some c→c.Holds Tryd.prog (Zar_C).glob f:=by
 intro f site c h
 unfold Zar_C at h
 dsimp only at h
 split at h
 ·cases h; exact Zag_holds
 ·cases h; exact Zbf_holds
 ·cases h; exact Zbe_holds
 ·cases h; exact Zal_holds
 ·cases h; exact Ze_holds
 ·cases h; exact Zai_holds
 ·cases h; exact Zbm_holds
 ·cases h
theorem Zar_holds : Con.Holds Tryd.prog glob 38 Zar_c :=
 fn_holds (C:=Zar_C) (A:=Zar_As) (outs:=[(.cell 2 29,true,(.prod (.prod I (.prod (.slice (.prod I (.prod I .unit))) (.prod (.slice (.slice I)) .unit))) (.prod (.slice I) (.prod (.slice .str) (.prod I .unit)))))]) seat_ok Zar_cons (by kernel_rfl) (by kernel_rfl) Zar_loops (by kernel_rfl) (by kernel_rfl) Zar_eq
def Zaf_P : List (LoopPf Zaf_C Zaf_As (bodyOf Tryd.f68)):=[]
theorem Zaf_loops : LoopsOK Zaf_C Zaf_As (loopsIn (bodyOf Tryd.f68)):=loops_ok Zaf_P (by kernel_rfl) (by kernel_rfl)
theorem Zaf_cons : ∀ f site c,(Zaf_C).con f site=some c→c.Holds Tryd.prog (Zaf_C).glob f:=by
 intro f site c h; cases h
theorem Zaf_holds : Con.Holds Tryd.prog glob 68 Zaf_c :=
 fn_holds (C:=Zaf_C) (A:=Zaf_As) (outs:=[(.tmp 3,true,.bool)]) seat_ok Zaf_cons (by kernel_rfl) (by kernel_rfl) Zaf_loops (by kernel_rfl) (by kernel_rfl) Zaf_eq
def Za_P : List (LoopPf Za_C Za_As (bodyOf Tryd.f67)):=[⟨2,Za_A2,Za_B2,rfl,Za_R2⟩]
theorem Za_loops : LoopsOK Za_C Za_As (loopsIn (bodyOf Tryd.f67)):=loops_ok Za_P (by kernel_rfl) (by kernel_rfl)
theorem Za_cons : ∀ f site c,(Za_C).con f site=some c→c.Holds Tryd.prog (Za_C).glob f:=by
 intro f site c h
 unfold Za_C at h
 dsimp only at h
 split at h
 ·cases h; exact Zaf_holds
 ·cases h
theorem Za_holds : Con.Holds Tryd.prog glob 67 Za_c :=
 fn_holds (C:=Za_C) (A:=Za_As) (outs:=[(.tmp 4,true,I)]) seat_ok Za_cons (by kernel_rfl) (by kernel_rfl) Za_loops (by kernel_rfl) (by kernel_rfl) Za_eq
def Zay_P : List (LoopPf Zay_C Zay_As (bodyOf Tryd.f41)):=[]
theorem Zay_loops : LoopsOK Zay_C Zay_As (loopsIn (bodyOf Tryd.f41)):=loops_ok Zay_P (by kernel_rfl) (by kernel_rfl)
theorem Zay_cons : ∀ f site c,(Zay_C).con f site=some c→c.Holds Tryd.prog (Zay_C).glob f:=by
 intro f site c h
 unfold Zay_C at h
 dsimp only at h
 split at h
 ·cases h; exact Za_holds
 ·cases h
theorem Zay_holds : Con.Holds Tryd.prog glob 41 Zay_c :=
 fn_holds (C:=Zay_C) (A:=Zay_As) (outs:=[(.tmp 4,true,I)]) seat_ok Zay_cons (by kernel_rfl) (by kernel_rfl) Zay_loops (by kernel_rfl) (by kernel_rfl) Zay_eq
def Zbb_P : List (LoopPf Zbb_C Zbb_As (bodyOf Tryd.f83)):=[⟨3,Zbb_A3,Zbb_B3,rfl,Zbb_R3⟩]
theorem Zbb_loops : LoopsOK Zbb_C Zbb_As (loopsIn (bodyOf Tryd.f83)):=loops_ok Zbb_P (by kernel_rfl) (by kernel_rfl)
theorem Zbb_cons : ∀ f site c,(Zbb_C).con f site=some c→c.Holds Tryd.prog (Zbb_C).glob f:=by
 intro f site c h
 unfold Zbb_C at h
 dsimp only at h
 split at h
 ·cases h; exact Zal_holds
 ·cases h; exact Zai_holds
 ·cases h
theorem Zbb_holds : Con.Holds Tryd.prog glob 83 Zbb_c :=
 fn_holds (C:=Zbb_C) (A:=Zbb_As) (outs:=[(.cell 2 25,true,(.prod I (.prod (.slice (.prod I (.prod I .unit))) (.prod (.slice (.slice I)) .unit))))]) seat_ok Zbb_cons (by kernel_rfl) (by kernel_rfl) Zbb_loops (by kernel_rfl) (by kernel_rfl) Zbb_eq
def Zbk_P : List (LoopPf Zbk_C Zbk_As (bodyOf Tryd.f69)):=[]
theorem Zbk_loops : LoopsOK Zbk_C Zbk_As (loopsIn (bodyOf Tryd.f69)):=loops_ok Zbk_P (by kernel_rfl) (by kernel_rfl)
theorem Zbk_cons : ∀ f site c,(Zbk_C).con f site=some c→c.Holds Tryd.prog (Zbk_C).glob f:=by
 intro f site c h
 unfold Zbk_C at h
 dsimp only at h
 split at h
 ·cases h; exact Zau_holds
 ·cases h; exact Zad_holds
 ·cases h; exact Zbb_holds
 ·cases h
theorem Zbk_holds : Con.Holds Tryd.prog glob 69 Zbk_c :=
 fn_holds (C:=Zbk_C) (A:=Zbk_As) (outs:=[(.cell 4 25,true,(.prod I (.prod (.slice (.prod I (.prod I .unit))) (.prod (.slice (.slice I)) .unit)))),(.tmp 5,true,I)]) seat_ok Zbk_cons (by kernel_rfl) (by kernel_rfl) Zbk_loops (by kernel_rfl) (by kernel_rfl) Zbk_eq
def Zae_P : List (LoopPf Zae_C Zae_As (bodyOf Tryd.f70)):=[]
theorem Zae_loops : LoopsOK Zae_C Zae_As (loopsIn (bodyOf Tryd.f70)):=loops_ok Zae_P (by kernel_rfl) (by kernel_rfl)
theorem Zae_cons : ∀ f site c,(Zae_C).con f site=some c→c.Holds Tryd.prog (Zae_C).glob f:=by
 intro f site c h; cases h
theorem Zae_holds : Con.Holds Tryd.prog glob 70 Zae_c :=
 fn_holds (C:=Zae_C) (A:=Zae_As) (outs:=[(.tmp 4,true,I)]) seat_ok Zae_cons (by kernel_rfl) (by kernel_rfl) Zae_loops (by kernel_rfl) (by kernel_rfl) Zae_eq
def Zbj_P : List (LoopPf Zbj_C Zbj_As (bodyOf Tryd.f84)):=[⟨3,Zbj_A3,Zbj_B3,rfl,Zbj_R3⟩,⟨6,Zbj_A6,Zbj_B6,rfl,Zbj_R6⟩]
theorem Zbj_loops : LoopsOK Zbj_C Zbj_As (loopsIn (bodyOf Tryd.f84)):=loops_ok Zbj_P (by kernel_rfl) (by kernel_rfl)
theorem Zbj_cons : ∀ f site c,(Zbj_C).con f site=some c→c.Holds Tryd.prog (Zbj_C).glob f:=by
 intro f site c h
 unfold Zbj_C at h
 dsimp only at h
 split at h
 ·cases h; exact Zaw_holds
 ·cases h
theorem Zbj_holds : Con.Holds Tryd.prog glob 84 Zbj_c :=
 fn_holds (C:=Zbj_C) (A:=Zbj_As) (outs:=[(.tmp 2,true,(.slice I))]) seat_ok Zbj_cons (by kernel_rfl) (by kernel_rfl) Zbj_loops (by kernel_rfl) (by kernel_rfl) Zbj_eq
def Zbc_P : List (LoopPf Zbc_C Zbc_As (bodyOf Tryd.f85)):=[]
theorem Zbc_loops : LoopsOK Zbc_C Zbc_As (loopsIn (bodyOf Tryd.f85)):=loops_ok Zbc_P (by kernel_rfl) (by kernel_rfl)
theorem Zbc_cons : ∀ f site c,(Zbc_C).con f site=some c→c.Holds Tryd.prog (Zbc_C).glob f:=by
 intro f site c h
 unfold Zbc_C at h
 dsimp only at h
 split at h
 ·cases h; exact Zad_holds
 ·cases h; exact Zv_holds
 ·cases h
theorem Zbc_holds : Con.Holds Tryd.prog glob 85 Zbc_c :=
 fn_holds (C:=Zbc_C) (A:=Zbc_As) (outs:=[(.tmp 6,true,(.slice I))]) seat_ok Zbc_cons (by kernel_rfl) (by kernel_rfl) Zbc_loops (by kernel_rfl) (by kernel_rfl) Zbc_eq
def Zbp_P : List (LoopPf Zbp_C Zbp_As (bodyOf Tryd.f71)):=[]
theorem Zbp_loops : LoopsOK Zbp_C Zbp_As (loopsIn (bodyOf Tryd.f71)):=loops_ok Zbp_P (by kernel_rfl) (by kernel_rfl)
theorem Zbp_cons : ∀ f site c,(Zbp_C).con f site=some c→c.Holds Tryd.prog (Zbp_C).glob f:=by
 intro f site c h
 unfold Zbp_C at h
 dsimp only at h
 split at h
 ·cases h; exact Zbe_holds
 ·cases h; exact Zau_holds
 ·cases h; exact Zbb_holds
 ·cases h; exact Zbj_holds
 ·cases h; exact Zbc_holds
 ·cases h
theorem Zbp_holds : Con.Holds Tryd.prog glob 71 Zbp_c :=
 fn_holds (C:=Zbp_C) (A:=Zbp_As) (outs:=[(.cell 6 25,false,(.prod I (.prod (.slice (.prod I (.prod I .unit))) (.prod (.slice (.slice I)) .unit)))),(.tmp 7,true,I)]) seat_ok Zbp_cons (by kernel_rfl) (by kernel_rfl) Zbp_loops (by kernel_rfl) (by kernel_rfl) Zbp_eq
def Zax_P : List (LoopPf Zax_C Zax_As (bodyOf Tryd.f42)):=[⟨3,Zax_A3,Zax_B3,rfl,Zax_R3⟩]
theorem Zax_loops : LoopsOK Zax_C Zax_As (loopsIn (bodyOf Tryd.f42)):=loops_ok Zax_P (by kernel_rfl) (by kernel_rfl)
theorem Zax_cons : ∀ f site c,(Zax_C).con f site=some c→c.Holds Tryd.prog (Zax_C).glob f:=by
 intro f site c h
 unfold Zax_C at h
 dsimp only at h
 split at h
 ·cases h; exact Zai_holds
 ·cases h; exact Zbk_holds
 ·cases h; exact Zae_holds
 ·cases h; exact Zbp_holds
 ·cases h
theorem Zax_holds : Con.Holds Tryd.prog glob 42 Zax_c :=
 fn_holds (C:=Zax_C) (A:=Zax_As) (outs:=[(.cell 6 29,false,(.prod (.prod I (.prod (.slice (.prod I (.prod I .unit))) (.prod (.slice (.slice I)) .unit))) (.prod (.slice I) (.prod (.slice .str) (.prod I .unit))))),(.tmp 7,true,I)]) seat_ok Zax_cons (by kernel_rfl) (by kernel_rfl) Zax_loops (by kernel_rfl) (by kernel_rfl) Zax_eq
def Zba_P : List (LoopPf Zba_C Zba_As (bodyOf Tryd.f15)):=[⟨7,Zba_A7,Zba_B7,rfl,Zba_R7⟩,⟨10,Zba_A10,Zba_B10,rfl,Zba_R10⟩]
theorem Zba_loops : LoopsOK Zba_C Zba_As (loopsIn (bodyOf Tryd.f15)):=loops_ok Zba_P (by kernel_rfl) (by kernel_rfl)
theorem Zba_cons : ∀ f site c,(Zba_C).con f site=some c→c.Holds Tryd.prog (Zba_C).glob f:=by
 intro f site c h
 unfold Zba_C at h
 dsimp only at h
 split at h
 ·cases h; exact Zbo_holds
 ·cases h; exact Zbn_holds
 ·cases h; exact Zav_holds
 ·cases h; exact Zar_holds
 ·cases h; exact Zaw_holds
 ·cases h; exact Zk_holds
 ·cases h; exact Zay_holds
 ·cases h; exact Zax_holds
 ·cases h
theorem Zba_holds : Con.Holds Tryd.prog glob 15 Zba_c :=
 fn_holds (C:=Zba_C) (A:=Zba_As) (outs:=[(.cell 2 29,false,(.prod (.prod I (.prod (.slice (.prod I (.prod I .unit))) (.prod (.slice (.slice I)) .unit))) (.prod (.slice I) (.prod (.slice .str) (.prod I .unit))))),(.tmp 3,true,I)]) seat_ok Zba_cons (by kernel_rfl) (by kernel_rfl) Zba_loops (by kernel_rfl) (by kernel_rfl) Zba_eq
def Zh_P : List (LoopPf Zh_C Zh_As (bodyOf Tryd.f16)):=[⟨4,Zh_A4,Zh_B4,rfl,Zh_R4⟩,⟨11,Zh_A11,Zh_B11,rfl,Zh_R11⟩]
theorem Zh_loops : LoopsOK Zh_C Zh_As (loopsIn (bodyOf Tryd.f16)):=loops_ok Zh_P (by kernel_rfl) (by kernel_rfl)
theorem Zh_cons : ∀ f site c,(Zh_C).con f site=some c→c.Holds Tryd.prog (Zh_C).glob f:=by
 intro f site c h
 unfold Zh_C at h
 dsimp only at h
 split at h
 ·cases h; exact Zbo_holds
 ·cases h; exact Zbn_holds
 ·cases h; exact Zaw_holds
 ·cases h; exact Zk_holds
 ·cases h
theorem Zh_holds : Con.Holds Tryd.prog glob 16 Zh_c :=
 fn_holds (C:=Zh_C) (A:=Zh_As) (outs:=[(.tmp 2,true,.bool)]) seat_ok Zh_cons (by kernel_rfl) (by kernel_rfl) Zh_loops (by kernel_rfl) (by kernel_rfl) Zh_eq
def Zp_P : List (LoopPf Zp_C Zp_As (bodyOf Tryd.f24)):=[]
theorem Zp_loops : LoopsOK Zp_C Zp_As (loopsIn (bodyOf Tryd.f24)):=loops_ok Zp_P (by kernel_rfl) (by kernel_rfl)
theorem Zp_cons : ∀ f site c,(Zp_C).con f site=some c→c.Holds Tryd.prog (Zp_C).glob f:=by
 intro f site c h; cases h
theorem Zp_holds : Con.Holds Tryd.prog glob 24 Zp_c :=
 fn_holds (C:=Zp_C) (A:=Zp_As) (outs:=[(.cell 0 29,true,(.prod (.prod I (.prod (.slice (.prod I (.prod I .unit))) (.prod (.slice (.slice I)) .unit))) (.prod (.slice I) (.prod (.slice .str) (.prod I .unit)))))]) seat_ok Zp_cons (by kernel_rfl) (by kernel_rfl) Zp_loops (by kernel_rfl) (by kernel_rfl) Zp_eq
def Zs_P : List (LoopPf Zs_C Zs_As (bodyOf Tryd.f9)):=[]
theorem Zs_loops : LoopsOK Zs_C Zs_As (loopsIn (bodyOf Tryd.f9)):=loops_ok Zs_P (by kernel_rfl) (by kernel_rfl)
theorem Zs_cons : ∀ f site c,(Zs_C).con f site=some c→c.Holds Tryd.prog (Zs_C).glob f:=by
 intro f site c h
 unfold Zs_C at h
 dsimp only at h
 split at h
 ·cases h; exact Zo_holds
 ·cases h; exact Zba_holds
 ·cases h; exact Zh_holds
 ·cases h; exact Zp_holds
 ·cases h
theorem Zs_holds : Con.Holds Tryd.prog glob 9 Zs_c :=
 fn_holds (C:=Zs_C) (A:=Zs_As) (outs:=[(.tmp 0,true,.bool)]) seat_ok Zs_cons (by kernel_rfl) (by kernel_rfl) Zs_loops (by kernel_rfl) (by kernel_rfl) Zs_eq
def Zw_P : List (LoopPf Zw_C Zw_As (bodyOf Tryd.f46)):=[⟨3,Zw_A3,Zw_B3,rfl,Zw_R3⟩]
theorem Zw_loops : LoopsOK Zw_C Zw_As (loopsIn (bodyOf Tryd.f46)):=loops_ok Zw_P (by kernel_rfl) (by kernel_rfl)
theorem Zw_cons : ∀ f site c,(Zw_C).con f site=some c→c.Holds Tryd.prog (Zw_C).glob f:=by
 intro f site c h; cases h
theorem Zw_holds : Con.Holds Tryd.prog glob 46 Zw_c :=
 fn_holds (C:=Zw_C) (A:=Zw_As) (outs:=[(.tmp 2,true,(.slice I))]) seat_ok Zw_cons (by kernel_rfl) (by kernel_rfl) Zw_loops (by kernel_rfl) (by kernel_rfl) Zw_eq
def Zaa_P : List (LoopPf Zaa_C Zaa_As (bodyOf Tryd.f29)):=[⟨4,Zaa_A4,Zaa_B4,rfl,Zaa_R4⟩,⟨13,Zaa_A13,Zaa_B13,rfl,Zaa_R13⟩,⟨16,Zaa_A16,Zaa_B16,rfl,Zaa_R16⟩]
theorem Zaa_loops : LoopsOK Zaa_C Zaa_As (loopsIn (bodyOf Tryd.f29)):=loops_ok Zaa_P (by kernel_rfl) (by kernel_rfl)
theorem Zaa_cons : ∀ f site c,(Zaa_C).con f site=some c→c.Holds Tryd.prog (Zaa_C).glob f:=by
 intro f site c h
 unfold Zaa_C at h
 dsimp only at h
 split at h
 ·cases h; exact Zw_holds
 ·cases h
theorem Zaa_holds : Con.Holds Tryd.prog glob 29 Zaa_c :=
 fn_holds (C:=Zaa_C) (A:=Zaa_As) (outs:=[(.tmp 2,true,.bool)]) seat_ok Zaa_cons (by kernel_rfl) (by kernel_rfl) Zaa_loops (by kernel_rfl) (by kernel_rfl) Zaa_eq
def Zn_P : List (LoopPf Zn_C Zn_As (bodyOf Tryd.f55)):=[⟨3,Zn_A3,Zn_B3,rfl,Zn_R3⟩,⟨7,Zn_A7,Zn_B7,rfl,Zn_R7⟩]
theorem Zn_loops : LoopsOK Zn_C Zn_As (loopsIn (bodyOf Tryd.f55)):=loops_ok Zn_P (by kernel_rfl) (by kernel_rfl)
theorem Zn_cons : ∀ f site c,(Zn_C).con f site=some c→c.Holds Tryd.prog (Zn_C).glob f:=by
 intro f site c h; cases h
theorem Zn_holds : Con.Holds Tryd.prog glob 55 Zn_c :=
 fn_holds (C:=Zn_C) (A:=Zn_As) (outs:=[(.tmp 2,true,(.slice I))]) seat_ok Zn_cons (by kernel_rfl) (by kernel_rfl) Zn_loops (by kernel_rfl) (by kernel_rfl) Zn_eq
def Zz_P : List (LoopPf Zz_C Zz_As (bodyOf Tryd.f48)):=[]
theorem Zz_loops : LoopsOK Zz_C Zz_As (loopsIn (bodyOf Tryd.f48)):=loops_ok Zz_P (by kernel_rfl) (by kernel_rfl)
theorem Zz_cons : ∀ f site c,(Zz_C).con f site=some c→c.Holds Tryd.prog (Zz_C).glob f:=by
 intro f site c h; cases h
theorem Zz_holds : Con.Holds Tryd.prog glob 48 Zz_c :=
 fn_holds (C:=Zz_C) (A:=Zz_As) (outs:=[(.tmp 2,true,I)]) seat_ok Zz_cons (by kernel_rfl) (by kernel_rfl) Zz_loops (by kernel_rfl) (by kernel_rfl) Zz_eq
def Zy_P : List (LoopPf Zy_C Zy_As (bodyOf Tryd.f33)):=[⟨7,Zy_A7,Zy_B7,rfl,Zy_R7⟩,⟨12,Zy_A12,Zy_B12,rfl,Zy_R12⟩]
theorem Zy_loops : LoopsOK Zy_C Zy_As (loopsIn (bodyOf Tryd.f33)):=loops_ok Zy_P (by kernel_rfl) (by kernel_rfl)
theorem Zy_cons : ∀ f site c,(Zy_C).con f site=some c→c.Holds Tryd.prog (Zy_C).glob f:=by
 intro f site c h
 unfold Zy_C at h
 dsimp only at h
 split at h
 ·cases h; exact Zaa_holds
 ·cases h; exact Zz_holds
 ·cases h; exact Zn_holds
 ·cases h
theorem Zy_holds : Con.Holds Tryd.prog glob 33 Zy_c :=
 fn_holds (C:=Zy_C) (A:=Zy_As) (outs:=[(.tmp 2,true,(.slice (.slice I)))]) seat_ok Zy_cons (by kernel_rfl) (by kernel_rfl) Zy_loops (by kernel_rfl) (by kernel_rfl) Zy_eq
def Zac_P : List (LoopPf Zac_C Zac_As (bodyOf Tryd.f79)):=[⟨1,Zac_A1,Zac_B1,rfl,Zac_R1⟩]
theorem Zac_loops : LoopsOK Zac_C Zac_As (loopsIn (bodyOf Tryd.f79)):=loops_ok Zac_P (by kernel_rfl) (by kernel_rfl)
theorem Zac_cons : ∀ f site c,(Zac_C).con f site=some c→c.Holds Tryd.prog (Zac_C).glob f:=by
 intro f site c h; cases h
theorem Zac_holds : Con.Holds Tryd.prog glob 79 Zac_c :=
 fn_holds (C:=Zac_C) (A:=Zac_As) (outs:=[(.tmp 4,true,I)]) seat_ok Zac_cons (by kernel_rfl) (by kernel_rfl) Zac_loops (by kernel_rfl) (by kernel_rfl) Zac_eq
def Zc_P : List (LoopPf Zc_C Zc_As (bodyOf Tryd.f53)):=[⟨3,Zc_A3,Zc_B3,rfl,Zc_R3⟩,⟨8,Zc_A8,Zc_B8,rfl,Zc_R8⟩]
theorem Zc_loops : LoopsOK Zc_C Zc_As (loopsIn (bodyOf Tryd.f53)):=loops_ok Zc_P (by kernel_rfl) (by kernel_rfl)
theorem Zc_cons : ∀ f site c,(Zc_C).con f site=some c→c.Holds Tryd.prog (Zc_C).glob f:=by
 intro f site c h
 unfold Zc_C at h
 dsimp only at h
 split at h
 ·cases h; exact Zac_holds
 ·cases h
theorem Zc_holds : Con.Holds Tryd.prog glob 53 Zc_c :=
 fn_holds (C:=Zc_C) (A:=Zc_As) (outs:=[(.tmp 2,true,I)]) seat_ok Zc_cons (by kernel_rfl) (by kernel_rfl) Zc_loops (by kernel_rfl) (by kernel_rfl) Zc_eq
def Zr_P : List (LoopPf Zr_C Zr_As (bodyOf Tryd.f52)):=[⟨5,Zr_A5,Zr_B5,rfl,Zr_R5⟩]
theorem Zr_loops : LoopsOK Zr_C Zr_As (loopsIn (bodyOf Tryd.f52)):=loops_ok Zr_P (by kernel_rfl) (by kernel_rfl)
theorem Zr_cons : ∀ f site c,(Zr_C).con f site=some c→c.Holds Tryd.prog (Zr_C).glob f:=by
 intro f site c h
 unfold Zr_C at h
 dsimp only at h
 split at h
 ·cases h; exact Zaa_holds
 ·cases h; exact Zy_holds
 ·cases h; exact Zc_holds
 ·cases h
theorem Zr_holds : Con.Holds Tryd.prog glob 52 Zr_c :=
 fn_holds (C:=Zr_C) (A:=Zr_As) (outs:=[(.tmp 2,true,I)]) seat_ok Zr_cons (by kernel_rfl) (by kernel_rfl) Zr_loops (by kernel_rfl) (by kernel_rfl) Zr_eq
def Zq_P : List (LoopPf Zq_C Zq_As (bodyOf Tryd.f30)):=[]
theorem Zq_loops : LoopsOK Zq_C Zq_As (loopsIn (bodyOf Tryd.f30)):=loops_ok Zq_P (by kernel_rfl) (by kernel_rfl)
theorem Zq_cons : ∀ f site c,(Zq_C).con f site=some c→c.Holds Tryd.prog (Zq_C).glob f:=by
 intro f site c h
 unfold Zq_C at h
 dsimp only at h
 split at h
 ·cases h; exact Zr_holds
 ·cases h; exact Zc_holds
 ·cases h
theorem Zq_holds : Con.Holds Tryd.prog glob 30 Zq_c :=
 fn_holds (C:=Zq_C) (A:=Zq_As) (outs:=[(.tmp 2,true,.bool)]) seat_ok Zq_cons (by kernel_rfl) (by kernel_rfl) Zq_loops (by kernel_rfl) (by kernel_rfl) Zq_eq
def Zak_P : List (LoopPf Zak_C Zak_As (bodyOf Tryd.f31)):=[⟨2,Zak_A2,Zak_B2,rfl,Zak_R2⟩,⟨6,Zak_A6,Zak_B6,rfl,Zak_R6⟩]
theorem Zak_loops : LoopsOK Zak_C Zak_As (loopsIn (bodyOf Tryd.f31)):=loops_ok Zak_P (by kernel_rfl) (by kernel_rfl)
theorem Zak_cons : ∀ f site c,(Zak_C).con f site=some c→c.Holds Tryd.prog (Zak_C).glob f:=by
 intro f site c h; cases h
theorem Zak_holds : Con.Holds Tryd.prog glob 31 Zak_c :=
 fn_holds (C:=Zak_C) (A:=Zak_As) (outs:=[(.tmp 2,true,.bool)]) seat_ok Zak_cons (by kernel_rfl) (by kernel_rfl) Zak_loops (by kernel_rfl) (by kernel_rfl) Zak_eq
def Zg_P : List (LoopPf Zg_C Zg_As (bodyOf Tryd.f80)):=[]
theorem Zg_loops : LoopsOK Zg_C Zg_As (loopsIn (bodyOf Tryd.f80)):=loops_ok Zg_P (by kernel_rfl) (by kernel_rfl)
theorem Zg_cons : ∀ f site c,(Zg_C).con f site=some c→c.Holds Tryd.prog (Zg_C).glob f:=by
 intro f site c h; cases h
theorem Zg_holds : Con.Holds Tryd.prog glob 80 Zg_c :=
 fn_holds (C:=Zg_C) (A:=Zg_As) (outs:=[(.tmp 2,true,(.int .u8))]) seat_ok Zg_cons (by kernel_rfl) (by kernel_rfl) Zg_loops (by kernel_rfl) (by kernel_rfl) Zg_eq
def Zl_P : List (LoopPf Zl_C Zl_As (bodyOf Tryd.f54)):=[⟨3,Zl_A3,Zl_B3,rfl,Zl_R3⟩]
theorem Zl_loops : LoopsOK Zl_C Zl_As (loopsIn (bodyOf Tryd.f54)):=loops_ok Zl_P (by kernel_rfl) (by kernel_rfl)
theorem Zl_cons : ∀ f site c,(Zl_C).con f site=some c→c.Holds Tryd.prog (Zl_C).glob f:=by
 intro f site c h
 unfold Zl_C at h
 dsimp only at h
 split at h
 ·cases h; exact Zg_holds
 ·cases h
theorem Zl_holds : Con.Holds Tryd.prog glob 54 Zl_c :=
 fn_holds (C:=Zl_C) (A:=Zl_As) (outs:=[(.tmp 2,true,.str)]) seat_ok Zl_cons (by kernel_rfl) (by kernel_rfl) Zl_loops (by kernel_rfl) (by kernel_rfl) Zl_eq
def Zab_P : List (LoopPf Zab_C Zab_As (bodyOf Tryd.f32)):=[⟨2,Zab_A2,Zab_B2,rfl,Zab_R2⟩,⟨7,Zab_A7,Zab_B7,rfl,Zab_R7⟩]
theorem Zab_loops : LoopsOK Zab_C Zab_As (loopsIn (bodyOf Tryd.f32)):=loops_ok Zab_P (by kernel_rfl) (by kernel_rfl)
theorem Zab_cons : ∀ f site c,(Zab_C).con f site=some c→c.Holds Tryd.prog (Zab_C).glob f:=by
 intro f site c h
 unfold Zab_C at h
 dsimp only at h
 split at h
 ·cases h; exact Zl_holds
 ·cases h
theorem Zab_holds : Con.Holds Tryd.prog glob 32 Zab_c :=
 fn_holds (C:=Zab_C) (A:=Zab_As) (outs:=[(.tmp 2,true,.bool)]) seat_ok Zab_cons (by kernel_rfl) (by kernel_rfl) Zab_loops (by kernel_rfl) (by kernel_rfl) Zab_eq
def Zas_P : List (LoopPf Zas_C Zas_As (bodyOf Tryd.f34)):=[⟨2,Zas_A2,Zas_B2,rfl,Zas_R2⟩]
theorem Zas_loops : LoopsOK Zas_C Zas_As (loopsIn (bodyOf Tryd.f34)):=loops_ok Zas_P (by kernel_rfl) (by kernel_rfl)
theorem Zas_cons : ∀ f site c,(Zas_C).con f site=some c→c.Holds Tryd.prog (Zas_C).glob f:=by
 intro f site c h; cases h
theorem Zas_holds : Con.Holds Tryd.prog glob 34 Zas_c :=
 fn_holds (C:=Zas_C) (A:=Zas_As) (outs:=[(.tmp 4,true,.bool)]) seat_ok Zas_cons (by kernel_rfl) (by kernel_rfl) Zas_loops (by kernel_rfl) (by kernel_rfl) Zas_eq
def Zaj_P : List (LoopPf Zaj_C Zaj_As (bodyOf Tryd.f56)):=[⟨3,Zaj_A3,Zaj_B3,rfl,Zaj_R3⟩]
theorem Zaj_loops : LoopsOK Zaj_C Zaj_As (loopsIn (bodyOf Tryd.f56)):=loops_ok Zaj_P (by kernel_rfl) (by kernel_rfl)
theorem Zaj_cons : ∀ f site c,(Zaj_C).con f site=some c→c.Holds Tryd.prog (Zaj_C).glob f:=by
 intro f site c h; cases h
theorem Zaj_holds : Con.Holds Tryd.prog glob 56 Zaj_c :=
 fn_holds (C:=Zaj_C) (A:=Zaj_As) (outs:=[(.tmp 2,true,I)]) seat_ok Zaj_cons (by kernel_rfl) (by kernel_rfl) Zaj_loops (by kernel_rfl) (by kernel_rfl) Zaj_eq
def Zt_P : List (LoopPf Zt_C Zt_As (bodyOf Tryd.f35)):=[⟨3,Zt_A3,Zt_B3,rfl,Zt_R3⟩]
theorem Zt_loops : LoopsOK Zt_C Zt_As (loopsIn (bodyOf Tryd.f35)):=loops_ok Zt_P (by kernel_rfl) (by kernel_rfl)
theorem Zt_cons : ∀ f site c,(Zt_C).con f site=some c→c.Holds Tryd.prog (Zt_C).glob f:=by
 intro f site c h
 unfold Zt_C at h
 dsimp only at h
 split at h
 ·cases h; exact Zaj_holds
 ·cases h
theorem Zt_holds : Con.Holds Tryd.prog glob 35 Zt_c :=
 fn_holds (C:=Zt_C) (A:=Zt_As) (outs:=[(.tmp 4,true,I)]) seat_ok Zt_cons (by kernel_rfl) (by kernel_rfl) Zt_loops (by kernel_rfl) (by kernel_rfl) Zt_eq
def Zx_P : List (LoopPf Zx_C Zx_As (bodyOf Tryd.f13)):=[⟨8,Zx_A8,Zx_B8,rfl,Zx_R8⟩]
theorem Zx_loops : LoopsOK Zx_C Zx_As (loopsIn (bodyOf Tryd.f13)):=loops_ok Zx_P (by kernel_rfl) (by kernel_rfl)
theorem Zx_cons : ∀ f site c,(Zx_C).con f site=some c→c.Holds Tryd.prog (Zx_C).glob f:=by
 intro f site c h
 unfold Zx_C at h
 dsimp only at h
 split at h
 ·cases h; exact Zaa_holds
 ·cases h; exact Zq_holds
 ·cases h; exact Zak_holds
 ·cases h; exact Zab_holds
 ·cases h; exact Zy_holds
 ·cases h; exact Zas_holds
 ·cases h; exact Zt_holds
 ·cases h
theorem Zx_holds : Con.Holds Tryd.prog glob 13 Zx_c :=
 fn_holds (C:=Zx_C) (A:=Zx_As) (outs:=[(.tmp 2,true,I)]) seat_ok Zx_cons (by kernel_rfl) (by kernel_rfl) Zx_loops (by kernel_rfl) (by kernel_rfl) Zx_eq
def Zd_P : List (LoopPf Zd_C Zd_As (bodyOf Tryd.f11)):=[⟨8,Zd_A8,Zd_B8,rfl,Zd_R8⟩,⟨15,Zd_A15,Zd_B15,rfl,Zd_R15⟩,⟨39,Zd_A39,Zd_B39,rfl,Zd_R39⟩,⟨43,Zd_A43,Zd_B43,rfl,Zd_R43⟩]
theorem Zd_loops : LoopsOK Zd_C Zd_As (loopsIn (bodyOf Tryd.f11)):=loops_ok Zd_P (by kernel_rfl) (by kernel_rfl)
theorem Zd_cons : ∀ f site c,(Zd_C).con f site=some c→c.Holds Tryd.prog (Zd_C).glob f:=by
 intro f site c h
 unfold Zd_C at h
 dsimp only at h
 split at h
 ·cases h; exact Zx_holds
 ·cases h
theorem Zd_holds : Con.Holds Tryd.prog glob 11 Zd_c :=
 fn_holds (C:=Zd_C) (A:=Zd_As) (outs:=[(.cell 2 29,true,(.prod (.prod I (.prod (.slice (.prod I (.prod I .unit))) (.prod (.slice (.slice I)) .unit))) (.prod (.slice I) (.prod (.slice .str) (.prod I .unit))))),(.tmp 3,true,(.slice (.slice I))),(.tmp 4,true,I)]) seat_ok Zd_cons (by kernel_rfl) (by kernel_rfl) Zd_loops (by kernel_rfl) (by kernel_rfl) Zd_eq
def Zm_P : List (LoopPf Zm_C Zm_As (bodyOf Tryd.f78)):=[⟨4,Zm_A4,Zm_B4,rfl,Zm_R4⟩,⟨8,Zm_A8,Zm_B8,rfl,Zm_R8⟩]
theorem Zm_loops : LoopsOK Zm_C Zm_As (loopsIn (bodyOf Tryd.f78)):=loops_ok Zm_P (by kernel_rfl) (by kernel_rfl)
theorem Zm_cons : ∀ f site c,(Zm_C).con f site=some c→c.Holds Tryd.prog (Zm_C).glob f:=by
 intro f site c h; cases h
theorem Zm_holds : Con.Holds Tryd.prog glob 78 Zm_c :=
 fn_holds (C:=Zm_C) (A:=Zm_As) (outs:=[(.tmp 4,true,.bool)]) seat_ok Zm_cons (by kernel_rfl) (by kernel_rfl) Zm_loops (by kernel_rfl) (by kernel_rfl) Zm_eq
def Zah_P : List (LoopPf Zah_C Zah_As (bodyOf Tryd.f51)):=[⟨4,Zah_A4,Zah_B4,rfl,Zah_R4⟩,⟨9,Zah_A9,Zah_B9,rfl,Zah_R9⟩]
theorem Zah_loops : LoopsOK Zah_C Zah_As (loopsIn (bodyOf Tryd.f51)):=loops_ok Zah_P (by kernel_rfl) (by kernel_rfl)
theorem Zah_cons : ∀ f site c,(Zah_C).con f site=some c→c.Holds Tryd.prog (Zah_C).glob f:=by
 intro f site c h
 unfold Zah_C at h
 dsimp only at h
 split at h
 ·cases h; exact Zm_holds
 ·cases h
theorem Zah_holds : Con.Holds Tryd.prog glob 51 Zah_c :=
 fn_holds (C:=Zah_C) (A:=Zah_As) (outs:=[(.tmp 4,true,.bool)]) seat_ok Zah_cons (by kernel_rfl) (by kernel_rfl) Zah_loops (by kernel_rfl) (by kernel_rfl) Zah_eq
def Zu_P : List (LoopPf Zu_C Zu_As (bodyOf Tryd.f28)):=[⟨4,Zu_A4,Zu_B4,rfl,Zu_R4⟩,⟨7,Zu_A7,Zu_B7,rfl,Zu_R7⟩]
theorem Zu_loops : LoopsOK Zu_C Zu_As (loopsIn (bodyOf Tryd.f28)):=loops_ok Zu_P (by kernel_rfl) (by kernel_rfl)
theorem Zu_cons : ∀ f site c,(Zu_C).con f site=some c→c.Holds Tryd.prog (Zu_C).glob f:=by
 intro f site c h
 unfold Zu_C at h
 dsimp only at h
 split at h
 ·cases h; exact Zah_holds
 ·cases h
theorem Zu_holds : Con.Holds Tryd.prog glob 28 Zu_c :=
 fn_holds (C:=Zu_C) (A:=Zu_As) (outs:=[(.tmp 4,true,.bool)]) seat_ok Zu_cons (by kernel_rfl) (by kernel_rfl) Zu_loops (by kernel_rfl) (by kernel_rfl) Zu_eq
def Zam_P : List (LoopPf Zam_C Zam_As (bodyOf Tryd.f12)):=[⟨4,Zam_A4,Zam_B4,rfl,Zam_R4⟩,⟨9,Zam_A9,Zam_B9,rfl,Zam_R9⟩]
theorem Zam_loops : LoopsOK Zam_C Zam_As (loopsIn (bodyOf Tryd.f12)):=loops_ok Zam_P (by kernel_rfl) (by kernel_rfl)
theorem Zam_cons : ∀ f site c,(Zam_C).con f site=some c→c.Holds Tryd.prog (Zam_C).glob f:=by
 intro f site c h
 unfold Zam_C at h
 dsimp only at h
 split at h
 ·cases h; exact Zu_holds
 ·cases h
theorem Zam_holds : Con.Holds Tryd.prog glob 12 Zam_c :=
 fn_holds (C:=Zam_C) (A:=Zam_As) (outs:=[(.tmp 4,true,.bool)]) seat_ok Zam_cons (by kernel_rfl) (by kernel_rfl) Zam_loops (by kernel_rfl) (by kernel_rfl) Zam_eq
def Zb_P : List (LoopPf Zb_C Zb_As (bodyOf Tryd.f3)):=[⟨8,Zb_A8,Zb_B8,rfl,Zb_R8⟩,⟨13,Zb_A13,Zb_B13,rfl,Zb_R13⟩]
theorem Zb_loops : LoopsOK Zb_C Zb_As (loopsIn (bodyOf Tryd.f3)):=loops_ok Zb_P (by kernel_rfl) (by kernel_rfl)
theorem Zb_cons : ∀ f site c,(Zb_C).con f site=some c→c.Holds Tryd.prog (Zb_C).glob f:=by
 intro f site c h
 unfold Zb_C at h
 dsimp only at h
 split at h
 ·cases h; exact Zao_holds
 ·cases h; exact Zs_holds
 ·cases h; exact Zo_holds
 ·cases h; exact Zd_holds
 ·cases h; exact Zam_holds
 ·cases h
theorem Zb_holds : Con.Holds Tryd.prog glob 3 Zb_c :=
 fn_holds (C:=Zb_C) (A:=Zb_As) (outs:=[(.tmp 2,true,.bool)]) seat_ok Zb_cons (by kernel_rfl) (by kernel_rfl) Zb_loops (by kernel_rfl) (by kernel_rfl) Zb_eq
end
end Go.Vm
