/- Log10 and Decibels: the walks. -/
import Derived.Test.YtfaciljklligeaaLh
namespace Go.Proofs.Ytfaciljklligeaa.Ct
open Go.ChangeShapes Go.WideShapes Go.RowKit Mm
/-- what the logarithm of a word is -/
structure LogOut (x r : Nat) : Prop where
  zero : x % 2 ^ 63 = 0 → r = Extern.MathAsm.negInf
  neg : x % 2 ^ 63 ≠ 0 → 2 ^ 63 ≤ x → r = Extern.MathAsm.nan
  big : 0x7FF0000000000000 ≤ x → x < 2 ^ 63 → r = x
  num : 0 < x → x < 0x7FF0000000000000 → Fp.fin r ∧ ∃ small, Near (Fp.val r) (logR x small) (1 / 1000000000000) ∧
      7071067 / 10000000 ≤ mantR x small ∧ mantR x small ≤ 14142136 / 10000000 ∧ (small = false → mantR x small < 1) ∧ (small = true → 1 ≤ mantR x small)
theorem log_out (P : Program) (x : Nat) : ∃ r, LogOut x r ∧ ∀ w, (Extern.MathLog.archLog #[.float .f64 x]).run P w = .ok (.float .f64 r) w := by
  have hpi : Extern.MathAsm.posInf = 0x7FF0000000000000 := rfl
  by_cases h0 : x % 2 ^ 63 = 0
  · refine ⟨Extern.MathAsm.negInf, ⟨fun _ => rfl, fun h => absurd h0 h, fun h1 h2 => by omega, fun h1 h2 => by omega⟩, fun w => ?_⟩
    change Sem.run P (ite _ _ _) w = _
    rw [if_pos (by simp [h0])]
    rfl
  · by_cases h1 : 2 ^ 63 ≤ x
    · refine ⟨Extern.MathAsm.nan, ⟨fun h => absurd h h0, fun _ _ => rfl, fun _ h2 => by omega, fun _ h2 => by omega⟩, fun w => ?_⟩
      change Sem.run P (ite _ _ _) w = _
      rw [if_neg (by simp [h0]), if_pos h1]
      rfl
    · by_cases h2 : 0x7FF0000000000000 ≤ x
      · refine ⟨x, ⟨fun h => absurd h h0, fun _ h => absurd h h1, fun _ _ => rfl, fun _ h => by omega⟩, fun w => ?_⟩
        change Sem.run P (ite _ _ _) w = _
        rw [if_neg (by simp [h0]), if_neg (by omega), if_pos (by rw [hpi]; exact h2)]
        rfl
      · have hx : 0 < x := by omega
        obtain ⟨r, small, h3, h4, h5⟩ := arch_log P x hx (by omega)
        exact ⟨r, ⟨fun h => absurd h h0, fun _ h => absurd h h1, fun h _ => absurd h h2, fun _ _ => ⟨h4, small, h5⟩⟩, h3⟩
/-- the constant of Log10 -/
def KT : Nat := 4601495173785380110
theorem log60 {x r : Nat} (h : ∀ w, (Extern.MathLog.archLog #[.float .f64 x]).run Try.prog w = .ok (.float .f64 r) w) (w : World) : Calls Try.prog 60 #[.float .f64 x] w fun e w' => e = .returned (.float .f64 r) ∧ w = w' := by
  have hl : ∀ w, (callFunc 71 #[.float .f64 x]).run Try.prog w = .ok (.value (.float .f64 r)) w := fun w => by
    rw [run_callFunc_extern (e := Extern.MathLog.archLog) Try.func71 (by kernel_rfl) (by kernel_rfl) (by kernel_rfl) (by kernel_rfl), h w]; rfl
  go_enter Try.func60, Try.ntmps60
  go_wp2_with fail
  go_ret
  exact ⟨rfl, rfl⟩
theorem log43 {x r : Nat} (h : ∀ w, (Extern.MathLog.archLog #[.float .f64 x]).run Try.prog w = .ok (.float .f64 r) w) (w : World) : Calls Try.prog 43 #[.float .f64 x] w fun e w' => ∃ t d, e = .returned (.float .f64 (fv .mul r KT t)) ∧ w' = w.drewN d := by
  have rm := fun (x y : Nat) (w : World) => run_fop (P := Try.prog) w .mul 25 x y fM
  have h56 : ∀ w, Calls Try.prog 56 #[.float .f64 x] w fun e w' => ∃ t d, e = .returned (.float .f64 (fv .mul r KT t)) ∧ w' = w.drewN d := fun w => by
    unfold KT
    go_enter Try.func56, Try.ntmps56
    go_wp2_with (go_at_call 60; refine (log60 h _).mono ?_; rintro e w' ⟨rfl, rfl⟩)
    go_ret
    exact ⟨_, _, rfl, rfl⟩
  go_enter Try.func43, Try.ntmps43
  go_wp2_with (go_at_call 56; refine (h56 _).mono ?_; rintro e w' ⟨t, d, rfl, rfl⟩)
  go_ret
  exact ⟨_, _, rfl, rfl⟩
end Go.Proofs.Ytfaciljklligeaa.Ct
