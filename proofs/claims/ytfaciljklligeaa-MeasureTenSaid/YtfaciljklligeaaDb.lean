/- Decibels: the program's, and the document's. -/
import Derived.Test.YtfaciljklligeaaLi
namespace Go.Proofs.Ytfaciljklligeaa.Ct
open Go.ChangeShapes Go.WideShapes Go.RowKit Mm
def W10 : Nat := 4621819117588971520
def W20 : Nat := 4626322717216342016
def M255 : Nat := 4631970625721908446
def C65 : Nat := 4617105065157315147
def decP (r : Nat) : Nat := fo .sub M255 (fo .mul W10 (fo .mul r KT))
def rdecP (r : Nat) : Nat := fo .mul W10 (fo .sub C65 (fo .mul r KT))
theorem run255 (P : Program) (w : World) : (Extern.MathLog.archLog #[.float .f64 4643176031446892544]).run P w = .ok (.float .f64 4617924926536672204) w := by kernel_rfl
theorem run65025 (P : Program) (w : World) : (Extern.MathLog.archLog #[.float .f64 4679169781532721152]).run P w = .ok (.float .f64 4622428526164042700) w := by kernel_rfl
theorem run650 (P : Program) (w : World) : (Extern.MathLog.archLog #[.float .f64 4648930875306672128]).run P w = .ok (.float .f64 4618978873962558083) w := by kernel_rfl
theorem m255 : fo .mul W20 (fo .mul 4617924926536672204 KT) = M255 := by kernel_rfl
theorem c65 : fo .mul 4622428526164042700 KT = C65 := by kernel_rfl
theorem dec650 : decP 4618978873962558083 = W20 := by kernel_rfl
def DecPost (p : Nat) (w : World) (e : Ending) (w' : World) : Prop := ∃ a d, FEq a p ∧ e = .returned (.float .f64 a) ∧ w' = w.drewN d
theorem dec26 {x r : Nat} (h : ∀ w, (Extern.MathLog.archLog #[.float .f64 x]).run Try.prog w = .ok (.float .f64 r) w) (w : World) : Calls Try.prog 26 #[.float .f64 x] w (DecPost (decP r) w) := by
  have rs := fun (x y : Nat) (w : World) => run_fop (P := Try.prog) w .sub 25 x y fS
  have rm := fun (x y : Nat) (w : World) => run_fop (P := Try.prog) w .mul 25 x y fM
  have h1 := fun w => log43 (run255 Try.prog) w
  have h2 := fun w => log43 h w
  clear h
  go_enter Try.func26, Try.ntmps26
  go_wp2_with fail
  refine (h1 _).mono ?_
  rintro e w1 ⟨t1, d1, rfl, rfl⟩
  have f1 := Lib.hid (fun t => show FEq (fv .mul 4626322717216342016 (fv .mul 4617924926536672204 KT t1) t) M255 from m255 ▸ fo_alike fM (.refl _) (fo_alike fM (.refl _) (.refl _) _) t)
  generalize fv .mul 4617924926536672204 KT t1 = y1 at f1 ⊢
  go_wp2_with fail
  refine (h2 _).mono ?_
  rintro e w2 ⟨t2, d2, rfl, rfl⟩
  have f2 := Lib.hid (fun t => show FEq (fv .mul 4621819117588971520 (fv .mul r KT t2) t) (fo .mul W10 (fo .mul r KT)) from fo_alike fM (.refl _) (fo_alike fM (.refl _) (.refl _) _) t)
  generalize fv .mul r KT t2 = y2 at f2 ⊢
  go_wp2_with fail
  go_ret
  exact ⟨_, _, fo_alike fS (f1.out _) (f2.out _) _, rfl, rfl⟩
theorem dec28 {x r : Nat} (h : ∀ w, (Extern.MathLog.archLog #[.float .f64 x]).run Try.prog w = .ok (.float .f64 r) w) (w : World) : Calls Try.prog 28 #[.float .f64 x] w (DecPost (rdecP r) w) := by
  have rs := fun (x y : Nat) (w : World) => run_fop (P := Try.prog) w .sub 25 x y fS
  have rm := fun (x y : Nat) (w : World) => run_fop (P := Try.prog) w .mul 25 x y fM
  have h1 := fun w => log43 (run65025 Try.prog) w
  have h2 := fun w => log43 h w
  clear h
  go_enter Try.func28, Try.ntmps28
  go_wp2_with fail
  refine (h1 _).mono ?_
  rintro e w1 ⟨t1, d1, rfl, rfl⟩
  have f1 := Lib.hid (show FEq (fv .mul 4622428526164042700 KT t1) C65 from c65 ▸ fo_alike fM (.refl _) (.refl _) _)
  generalize fv .mul 4622428526164042700 KT t1 = y1 at f1 ⊢
  go_wp2_with fail
  refine (h2 _).mono ?_
  rintro e w2 ⟨t2, d2, rfl, rfl⟩
  have f2 := Lib.hid (show FEq (fv .mul r KT t2) (fo .mul r KT) from fo_alike fM (.refl _) (.refl _) _)
  generalize fv .mul r KT t2 = y2 at f2 ⊢
  go_wp2_with fail
  go_ret
  exact ⟨_, _, fo_alike fM (.refl _) (fo_alike fS f1.out f2.out _) _, rfl, rfl⟩
end Go.Proofs.Ytfaciljklligeaa.Ct
